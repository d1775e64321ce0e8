/- YtahnmogcmiajeaaDoorA1 -/
import Derived.Test.YtahnmogcmiajeaaDoorLib
set_option linter.unusedSimpArgs false
set_option linter.unusedVariables false
set_option maxRecDepth 20000
namespace Go.Proofs.YtahnmogcmiajeaaDoor
open Go Go.SC
def W29 : Trans := fun args H Bd K => ∃ (x : GSymbol) (left : Int), args = [.agg (enc (x)).toArray, .int .i64 (left)] ∧ ((sm x ∧ 0 ≤ left ∧ left ≤ 1048576) ∧ K (.int .i64 (szP (tot x) left)) H Bd)
@[go_sem ↓] theorem W29_eq (x_name : ByteArray) (x_arity : Int) (left : Int) (H : AH) (Bd : Nat) (K : Value → AH → Nat → Prop) : W29 [.agg #[.string (x_name), .int .i64 (x_arity)], .int .i64 (left)] H Bd K = ((sm (GSymbol.mk x_name x_arity) ∧ 0 ≤ left ∧ left ≤ 1048576) ∧ K (.int .i64 (szP (tot (GSymbol.mk x_name x_arity)) left)) H Bd) := by
  refine propext ⟨fun h => ?_, fun h => ⟨_, _, rfl, h⟩⟩
  obtain ⟨x', left', e, h⟩ := h
  obtain ⟨xname', xarity'⟩ := x'
  skip
  simp only [enc_GSymbol, List.cons.injEq, Value.agg.injEq, toArr_inj, Value.int.injEq, Value.bool.injEq, Value.string.injEq, Value.slice.injEq, Value.pointer.injEq, Option.some.injEq, Addr.mk.injEq, lst_inj, true_and, and_true] at e
  obtain ⟨⟨rfl, rfl⟩, rfl⟩ := e
  exact h
theorem W29_ok : OK 29 W29 := by
  rintro args H Bd K ⟨x, left, rfl, hpre, hK⟩
  refine fn_pure pok (Env.base _) [] _ hK Tryd.func29 rfl (rs := [.tmp 4]) rfl Tryd.ntmps29 (by simp) Tryd.call29 (by kernel_rfl) (fun ha hb => .int _ _) (fun hb ha => ?_)
  obtain ⟨h1, h2, h3⟩ := hpre
  simp only [sm_GSymbol, sm_str] at h1
  have q0 := h3
  have z0 : tot x.name = x.name.size := rfl
  have ez : tot x = tot x.name := by simp [tot_GSymbol]
  rw [ez]
  simp (maxSteps := 2000000) (disch := first | assumption | (refine asm_intro ?_; assumption) | exact Nat.le_add_right _ _ | exact Nat.le_refl _ | omega | (simp (disch := first | exact Nat.le_add_right _ _ | omega) only [Le_upd hb, Le_rfl, free_T hb, free_upd]; done) | fail) only [go_sem, push_cast, and_pos, Le_updF, Le_upd hb, free_T hb, h1]
  rw [← z0]
  exact szP_lastI
def W13 : Trans := fun args H Bd K => ∃ (xs : List GSymbol) (left : Int), args = [lst (xs), .int .i64 (left)] ∧ ((sm xs ∧ 0 ≤ left ∧ left ≤ 1048576) ∧ K (.int .i64 (szP (tot xs) left)) H Bd)
@[go_sem ↓] theorem W13_eq (xs : List GSymbol) (left : Int) (H : AH) (Bd : Nat) (K : Value → AH → Nat → Prop) : W13 [lst (xs), .int .i64 (left)] H Bd K = ((sm xs ∧ 0 ≤ left ∧ left ≤ 1048576) ∧ K (.int .i64 (szP (tot xs) left)) H Bd) := by
  refine propext ⟨fun h => ?_, fun h => ⟨_, _, rfl, h⟩⟩
  obtain ⟨xs', left', e, h⟩ := h
  skip
  skip
  simp only [List.cons.injEq, Value.agg.injEq, toArr_inj, Value.int.injEq, Value.bool.injEq, Value.string.injEq, Value.slice.injEq, Value.pointer.injEq, Option.some.injEq, Addr.mk.injEq, lst_inj, true_and, and_true] at e
  obtain ⟨rfl, rfl⟩ := e
  exact h
theorem W13_ok : OK 13 W13 := by
  rintro args H Bd K ⟨xs, left, rfl, hpre, hK⟩
  refine fn_pure pok ((Env.base _).add 29 _ W29_ok) [] _ hK Tryd.func13 rfl (rs := [.tmp 4]) rfl Tryd.ntmps13 (by simp) Tryd.call13 (by kernel_rfl) (fun ha hb => .int _ _) (fun hb ha => ?_)
  obtain ⟨h1, h2, h3⟩ := hpre
  have hlen := sm_len h1
  have e : tot xs = xs.length + (xs.map tot).sum := tot_list xs
  simp (maxSteps := 2000000) (disch := first | assumption | (refine asm_intro ?_; assumption) | exact Nat.le_add_right _ _ | exact Nat.le_refl _ | omega | (simp (disch := first | exact Nat.le_add_right _ _ | omega) only [Le_upd hb, Le_rfl, free_T hb, free_upd]; done) | fail) only [go_sem, push_cast, and_pos, Le_updF, Le_upd hb, free_T hb]
  refine Cnp.of (fun h => by rw [e, szP_neg h]) (fun h => ?_)
  refine tr_for (fun i => 0 ≤ left - xs.length - totTo xs i) xs.length (fun i => [(0, lst xs), (1, .int .i64 (left - xs.length - totTo xs i)), (5, .int .i64 i)]) (by simp; omega) (by simp only [go_sem, push_cast, and_pos, Le_updF, totTo_zero, Int.sub_zero]) ?_
  intro i B0 hI hi hB
  refine vq_conv pok (E := ((Env.base _).add 29 _ W29_ok)) (PL := []) (by kernel_rfl) ?_
  rcases Nat.lt_or_ge i xs.length with hlt | hge
  · have e1 : xs[i]? = some xs[i] := List.getElem?_eq_getElem hlt
    have hx := sm_mem h1 (List.getElem_mem hlt)
    have hst := totTo_succ xs hlt
    skip
    simp (maxSteps := 2000000) (disch := first | assumption | (refine asm_intro ?_; assumption) | exact Nat.le_add_right _ _ | exact Nat.le_refl _ | omega | (simp (disch := first | exact Nat.le_add_right _ _ | omega) only [Le_upd hb, Le_rfl, free_T hb, free_upd]; done) | fail) only [go_sem, push_cast, and_pos, Le_updF, Le_upd hb, free_T hb, e1, hx]
    exact sz_step hlt hI
  · simp (maxSteps := 2000000) (disch := first | assumption | (refine asm_intro ?_; assumption) | exact Nat.le_add_right _ _ | exact Nat.le_refl _ | omega | (simp (disch := first | exact Nat.le_add_right _ _ | omega) only [Le_upd hb, Le_rfl, free_T hb, free_upd]; done) | fail) only [go_sem, push_cast, and_pos, Le_updF, Le_upd hb, free_T hb]
    refine vq_conv pok (E := ((Env.base _).add 29 _ W29_ok)) (PL := []) (by kernel_rfl) ?_
    simp (maxSteps := 2000000) (disch := first | assumption | (refine asm_intro ?_; assumption) | exact Nat.le_add_right _ _ | exact Nat.le_refl _ | omega | (simp (disch := first | exact Nat.le_add_right _ _ | omega) only [Le_upd hb, Le_rfl, free_T hb, free_upd]; done) | fail) only [go_sem, push_cast, and_pos, Le_updF, Le_upd hb, free_T hb]
    exact sz_end hge hI
def W4 : Trans := fun args H Bd K => ∃ (x : GSignature) (left : Int), args = [.agg (enc (x)).toArray, .int .i64 (left)] ∧ ((sm x ∧ 0 ≤ left ∧ left ≤ 1048576) ∧ K (.int .i64 (szP (tot x) left)) H Bd)
@[go_sem ↓] theorem W4_eq (x_symbols : List GSymbol) (left : Int) (H : AH) (Bd : Nat) (K : Value → AH → Nat → Prop) : W4 [.agg #[lst (x_symbols)], .int .i64 (left)] H Bd K = ((sm (GSignature.mk x_symbols) ∧ 0 ≤ left ∧ left ≤ 1048576) ∧ K (.int .i64 (szP (tot (GSignature.mk x_symbols)) left)) H Bd) := by
  refine propext ⟨fun h => ?_, fun h => ⟨_, _, rfl, h⟩⟩
  obtain ⟨x', left', e, h⟩ := h
  obtain ⟨xsymbols'⟩ := x'
  skip
  simp only [enc_GSignature, List.cons.injEq, Value.agg.injEq, toArr_inj, Value.int.injEq, Value.bool.injEq, Value.string.injEq, Value.slice.injEq, Value.pointer.injEq, Option.some.injEq, Addr.mk.injEq, lst_inj, true_and, and_true] at e
  obtain ⟨rfl, rfl⟩ := e
  exact h
theorem W4_ok : OK 4 W4 := by
  rintro args H Bd K ⟨x, left, rfl, hpre, hK⟩
  refine fn_pure pok ((Env.base _).add 13 _ W13_ok) [] _ hK Tryd.func4 rfl (rs := [.tmp 4]) rfl Tryd.ntmps4 (by simp) Tryd.call4 (by kernel_rfl) (fun ha hb => .int _ _) (fun hb ha => ?_)
  obtain ⟨h1, h2, h3⟩ := hpre
  simp only [sm_GSignature, sm_str] at h1
  have q0 := h3
  have q1 := szP_ub (tot x.symbols) (left := left) (by omega)
  have ez : tot x = tot x.symbols := by simp [tot_GSignature]
  rw [ez]
  simp (maxSteps := 2000000) (disch := first | assumption | (refine asm_intro ?_; assumption) | exact Nat.le_add_right _ _ | exact Nat.le_refl _ | omega | (simp (disch := first | exact Nat.le_add_right _ _ | omega) only [Le_upd hb, Le_rfl, free_T hb, free_upd]; done) | fail) only [go_sem, push_cast, and_pos, Le_updF, Le_upd hb, free_T hb, h1]
  first | exact szP_last | exact szP_lastT
def W30 : Trans := fun args H Bd K => ∃ (xs : List Int) (left : Int), args = [lst (xs), .int .i64 (left)] ∧ ((sm xs ∧ -1 ≤ left ∧ left ≤ 1048576) ∧ K (.int .i64 (szP (tot xs) left)) H Bd)
@[go_sem ↓] theorem W30_eq (xs : List Int) (left : Int) (H : AH) (Bd : Nat) (K : Value → AH → Nat → Prop) : W30 [lst (xs), .int .i64 (left)] H Bd K = ((sm xs ∧ -1 ≤ left ∧ left ≤ 1048576) ∧ K (.int .i64 (szP (tot xs) left)) H Bd) := by
  refine propext ⟨fun h => ?_, fun h => ⟨_, _, rfl, h⟩⟩
  obtain ⟨xs', left', e, h⟩ := h
  skip
  skip
  simp only [List.cons.injEq, Value.agg.injEq, toArr_inj, Value.int.injEq, Value.bool.injEq, Value.string.injEq, Value.slice.injEq, Value.pointer.injEq, Option.some.injEq, Addr.mk.injEq, lst_inj, true_and, and_true] at e
  obtain ⟨rfl, rfl⟩ := e
  exact h
theorem W30_ok : OK 30 W30 := by
  rintro args H Bd K ⟨xs, left, rfl, hpre, hK⟩
  refine fn_pure pok (Env.base _) [] _ hK Tryd.func30 rfl (rs := [.tmp 4]) rfl Tryd.ntmps30 (by simp) Tryd.call30 (by kernel_rfl) (fun ha hb => .int _ _) (fun hb ha => ?_)
  obtain ⟨h1, h2, h3⟩ := hpre
  have hlen := sm_len h1
  have e : tot xs = xs.length := by simp
  rw [e]
  simp (maxSteps := 2000000) (disch := first | assumption | (refine asm_intro ?_; assumption) | exact Nat.le_add_right _ _ | exact Nat.le_refl _ | omega | (simp (disch := first | exact Nat.le_add_right _ _ | omega) only [Le_upd hb, Le_rfl, free_T hb, free_upd]; done) | fail) only [go_sem, push_cast, and_pos, Le_updF, Le_upd hb, free_T hb]
  unfold szP
  exact Cnp.of (fun h => by rw [if_pos h]) (fun h => by rw [if_neg h])
def W14 : Trans := fun args H Bd K => ∃ (x : GRecord) (left : Int), args = [.agg (enc (x)).toArray, .int .i64 (left)] ∧ ((sm x ∧ 0 ≤ left ∧ left ≤ 1048576) ∧ K (.int .i64 (szP (tot x) left)) H Bd)
@[go_sem ↓] theorem W14_eq (x_term : List Int) (x_value : Int) (left : Int) (H : AH) (Bd : Nat) (K : Value → AH → Nat → Prop) : W14 [.agg #[lst (x_term), .int .i64 (x_value)], .int .i64 (left)] H Bd K = ((sm (GRecord.mk x_term x_value) ∧ 0 ≤ left ∧ left ≤ 1048576) ∧ K (.int .i64 (szP (tot (GRecord.mk x_term x_value)) left)) H Bd) := by
  refine propext ⟨fun h => ?_, fun h => ⟨_, _, rfl, h⟩⟩
  obtain ⟨x', left', e, h⟩ := h
  obtain ⟨xterm', xvalue'⟩ := x'
  skip
  simp only [enc_GRecord, List.cons.injEq, Value.agg.injEq, toArr_inj, Value.int.injEq, Value.bool.injEq, Value.string.injEq, Value.slice.injEq, Value.pointer.injEq, Option.some.injEq, Addr.mk.injEq, lst_inj, true_and, and_true] at e
  obtain ⟨⟨rfl, rfl⟩, rfl⟩ := e
  exact h
theorem W14_ok : OK 14 W14 := by
  rintro args H Bd K ⟨x, left, rfl, hpre, hK⟩
  refine fn_pure pok ((Env.base _).add 30 _ W30_ok) [] _ hK Tryd.func14 rfl (rs := [.tmp 4]) rfl Tryd.ntmps14 (by simp) Tryd.call14 (by kernel_rfl) (fun ha hb => .int _ _) (fun hb ha => ?_)
  obtain ⟨h1, h2, h3⟩ := hpre
  simp only [sm_GRecord, sm_str] at h1
  have q0 := h3
  have q1 := szP_ub (tot x.term) (left := left) (by omega)
  have ez : tot x = tot x.term := by simp [tot_GRecord]
  rw [ez]
  simp (maxSteps := 2000000) (disch := first | assumption | (refine asm_intro ?_; assumption) | exact Nat.le_add_right _ _ | exact Nat.le_refl _ | omega | (simp (disch := first | exact Nat.le_add_right _ _ | omega) only [Le_upd hb, Le_rfl, free_T hb, free_upd]; done) | fail) only [go_sem, push_cast, and_pos, Le_updF, Le_upd hb, free_T hb, h1]
  first | exact szP_last | exact szP_lastT
def W5 : Trans := fun args H Bd K => ∃ (xs : List GRecord) (left : Int), args = [lst (xs), .int .i64 (left)] ∧ ((sm xs ∧ 0 ≤ left ∧ left ≤ 1048576) ∧ K (.int .i64 (szP (tot xs) left)) H Bd)
@[go_sem ↓] theorem W5_eq (xs : List GRecord) (left : Int) (H : AH) (Bd : Nat) (K : Value → AH → Nat → Prop) : W5 [lst (xs), .int .i64 (left)] H Bd K = ((sm xs ∧ 0 ≤ left ∧ left ≤ 1048576) ∧ K (.int .i64 (szP (tot xs) left)) H Bd) := by
  refine propext ⟨fun h => ?_, fun h => ⟨_, _, rfl, h⟩⟩
  obtain ⟨xs', left', e, h⟩ := h
  skip
  skip
  simp only [List.cons.injEq, Value.agg.injEq, toArr_inj, Value.int.injEq, Value.bool.injEq, Value.string.injEq, Value.slice.injEq, Value.pointer.injEq, Option.some.injEq, Addr.mk.injEq, lst_inj, true_and, and_true] at e
  obtain ⟨rfl, rfl⟩ := e
  exact h
theorem W5_ok : OK 5 W5 := by
  rintro args H Bd K ⟨xs, left, rfl, hpre, hK⟩
  refine fn_pure pok ((Env.base _).add 14 _ W14_ok) [] _ hK Tryd.func5 rfl (rs := [.tmp 4]) rfl Tryd.ntmps5 (by simp) Tryd.call5 (by kernel_rfl) (fun ha hb => .int _ _) (fun hb ha => ?_)
  obtain ⟨h1, h2, h3⟩ := hpre
  have hlen := sm_len h1
  have e : tot xs = xs.length + (xs.map tot).sum := tot_list xs
  simp (maxSteps := 2000000) (disch := first | assumption | (refine asm_intro ?_; assumption) | exact Nat.le_add_right _ _ | exact Nat.le_refl _ | omega | (simp (disch := first | exact Nat.le_add_right _ _ | omega) only [Le_upd hb, Le_rfl, free_T hb, free_upd]; done) | fail) only [go_sem, push_cast, and_pos, Le_updF, Le_upd hb, free_T hb]
  refine Cnp.of (fun h => by rw [e, szP_neg h]) (fun h => ?_)
  refine tr_for (fun i => 0 ≤ left - xs.length - totTo xs i) xs.length (fun i => [(0, lst xs), (1, .int .i64 (left - xs.length - totTo xs i)), (5, .int .i64 i)]) (by simp; omega) (by simp only [go_sem, push_cast, and_pos, Le_updF, totTo_zero, Int.sub_zero]) ?_
  intro i B0 hI hi hB
  refine vq_conv pok (E := ((Env.base _).add 14 _ W14_ok)) (PL := []) (by kernel_rfl) ?_
  rcases Nat.lt_or_ge i xs.length with hlt | hge
  · have e1 : xs[i]? = some xs[i] := List.getElem?_eq_getElem hlt
    have hx := sm_mem h1 (List.getElem_mem hlt)
    have hst := totTo_succ xs hlt
    skip
    simp (maxSteps := 2000000) (disch := first | assumption | (refine asm_intro ?_; assumption) | exact Nat.le_add_right _ _ | exact Nat.le_refl _ | omega | (simp (disch := first | exact Nat.le_add_right _ _ | omega) only [Le_upd hb, Le_rfl, free_T hb, free_upd]; done) | fail) only [go_sem, push_cast, and_pos, Le_updF, Le_upd hb, free_T hb, e1, hx]
    exact sz_step hlt hI
  · simp (maxSteps := 2000000) (disch := first | assumption | (refine asm_intro ?_; assumption) | exact Nat.le_add_right _ _ | exact Nat.le_refl _ | omega | (simp (disch := first | exact Nat.le_add_right _ _ | omega) only [Le_upd hb, Le_rfl, free_T hb, free_upd]; done) | fail) only [go_sem, push_cast, and_pos, Le_updF, Le_upd hb, free_T hb]
    refine vq_conv pok (E := ((Env.base _).add 14 _ W14_ok)) (PL := []) (by kernel_rfl) ?_
    simp (maxSteps := 2000000) (disch := first | assumption | (refine asm_intro ?_; assumption) | exact Nat.le_add_right _ _ | exact Nat.le_refl _ | omega | (simp (disch := first | exact Nat.le_add_right _ _ | omega) only [Le_upd hb, Le_rfl, free_T hb, free_upd]; done) | fail) only [go_sem, push_cast, and_pos, Le_updF, Le_upd hb, free_T hb]
    exact sz_end hge hI
def W36 : Trans := fun args H Bd K => ∃ (x : GSymbol), args = [.agg (enc (x)).toArray] ∧ ((sm x ∧ tot x ≤ 1048576) ∧ K (.agg (enc (x)).toArray) H Bd)
@[go_sem ↓] theorem W36_eq (x_name : ByteArray) (x_arity : Int) (H : AH) (Bd : Nat) (K : Value → AH → Nat → Prop) : W36 [.agg #[.string (x_name), .int .i64 (x_arity)]] H Bd K = ((sm (GSymbol.mk x_name x_arity) ∧ tot (GSymbol.mk x_name x_arity) ≤ 1048576) ∧ K (.agg (enc ((GSymbol.mk x_name x_arity))).toArray) H Bd) := by
  refine propext ⟨fun h => ?_, fun h => ⟨_, rfl, h⟩⟩
  obtain ⟨x', e, h⟩ := h
  obtain ⟨xname', xarity'⟩ := x'
  simp only [enc_GSymbol, List.cons.injEq, Value.agg.injEq, toArr_inj, Value.int.injEq, Value.bool.injEq, Value.string.injEq, Value.slice.injEq, Value.pointer.injEq, Option.some.injEq, Addr.mk.injEq, lst_inj, true_and, and_true] at e
  obtain ⟨rfl, rfl⟩ := e
  exact h
theorem W36_ok : OK 36 W36 := by
  rintro args H Bd K ⟨x, rfl, hpre, hK⟩
  refine fn_pure pok (Env.base _) [] _ hK Tryd.func36 rfl (rs := [.cell 2 66]) rfl Tryd.ntmps36 (by simp) Tryd.call36 (by kernel_rfl) (fun ha hb => agg_nb _ _) (fun hb ha => ?_)
  obtain ⟨h1, h2⟩ := hpre
  simp only [sm_GSymbol] at h1
  simp only [tot_GSymbol] at h2
  simp (maxSteps := 2000000) (disch := first | assumption | (refine asm_intro ?_; assumption) | exact Nat.le_add_right _ _ | exact Nat.le_refl _ | omega | (simp (disch := first | exact Nat.le_add_right _ _ | omega) only [Le_upd hb, Le_rfl, free_T hb, free_upd]; done) | fail) only [go_sem, push_cast, and_pos, Le_updF, Le_upd hb, free_T hb, h1]
def W19 : Trans := fun args H Bd K => ∃ (xs : List GSymbol), args = [lst (xs)] ∧ ((sm xs ∧ tot xs ≤ 1048576) ∧ K (lst (xs)) H Bd)
@[go_sem ↓] theorem W19_eq (xs : List GSymbol) (H : AH) (Bd : Nat) (K : Value → AH → Nat → Prop) : W19 [lst (xs)] H Bd K = ((sm xs ∧ tot xs ≤ 1048576) ∧ K (lst (xs)) H Bd) := by
  refine propext ⟨fun h => ?_, fun h => ⟨_, rfl, h⟩⟩
  obtain ⟨xs', e, h⟩ := h
  skip
  simp only [List.cons.injEq, Value.agg.injEq, toArr_inj, Value.int.injEq, Value.bool.injEq, Value.string.injEq, Value.slice.injEq, Value.pointer.injEq, Option.some.injEq, Addr.mk.injEq, lst_inj, true_and, and_true] at e
  obtain rfl := e
  exact h
theorem W19_ok : OK 19 W19 := by
  rintro args H Bd K ⟨xs, rfl, hpre, hK⟩
  refine fn_pure pok ((Env.base _).add 36 _ W36_ok) [] _ hK Tryd.func19 rfl (rs := [.tmp 2]) rfl Tryd.ntmps19 (by simp) Tryd.call19 (by kernel_rfl) (fun ha hb => lst_nb _ _) (fun hb ha => ?_)
  obtain ⟨h1, h2⟩ := hpre
  have e : tot xs = xs.length + (xs.map tot).sum := tot_list xs
  simp (maxSteps := 2000000) (disch := first | assumption | (refine asm_intro ?_; assumption) | exact Nat.le_add_right _ _ | exact Nat.le_refl _ | omega | (simp (disch := first | exact Nat.le_add_right _ _ | omega) only [Le_upd hb, Le_rfl, free_T hb, free_upd]; done) | fail) only [go_sem, push_cast, and_pos, Le_updF, Le_upd hb, free_T hb]
  refine tr_fill (α := GSymbol) hb xs (fun i => [(0, lst xs), (3, .slice (some ⟨Bd, 0, some 2⟩) xs.length (xs.length + 1)), (4, .int .i64 i)]) _ (zmake_len _ _) ⟨Nat.le_refl _, by omega⟩ (by simp only [go_sem, push_cast, and_pos, Le_updF]) (Le.refl _) ?_
  intro i L B hi hL hF hB hb'
  refine vq_conv pok (E := ((Env.base _).add 36 _ W36_ok)) (PL := []) (by kernel_rfl) ?_
  have hL' : L.length = xs.length * 2 := hL
  rcases Nat.lt_or_ge i xs.length with hlt | hge
  · have e1 : xs[i]? = some xs[i] := List.getElem?_eq_getElem hlt
    have hx := sm_mem h1 (List.getElem_mem hlt)
    have hx2 : tot xs[i] ≤ (xs.map tot).sum := tot_mem hlt
    simp (maxSteps := 2000000) (disch := first | assumption | (refine asm_intro ?_; assumption) | exact Nat.le_add_right _ _ | exact Nat.le_refl _ | omega | (simp (disch := first | exact Nat.le_add_right _ _ | omega) only [Le_upd hb, Le_rfl, free_T hb, free_upd]; done) | fail) only [go_sem, push_cast, and_pos, Le_updF, Le_upd hb, free_T hb, e1, hx]
    exact ⟨_, rfl, Le.refl _⟩
  · simp (maxSteps := 2000000) (disch := first | assumption | (refine asm_intro ?_; assumption) | exact Nat.le_add_right _ _ | exact Nat.le_refl _ | omega | (simp (disch := first | exact Nat.le_add_right _ _ | omega) only [Le_upd hb, Le_rfl, free_T hb, free_upd]; done) | fail) only [go_sem, push_cast, and_pos, Le_updF, Le_upd hb, free_T hb]
    have hf : L = flat xs := by
      rw [List.take_of_length_le (by rw [hL]; exact Nat.mul_le_mul_right _ hge), List.take_of_length_le hge] at hF
      exact hF
    subst hf
    refine Tr.fin hb 3 (Nat.le_refl Bd) (by simp only [go_sem, push_cast, and_pos, Le_updF]; rfl) rfl ?_
    refine vq_conv pok (E := ((Env.base _).add 36 _ W36_ok)) (PL := []) (by kernel_rfl) ?_
    simp (maxSteps := 2000000) (disch := first | assumption | (refine asm_intro ?_; assumption) | exact Nat.le_add_right _ _ | exact Nat.le_refl _ | omega | (simp (disch := first | exact Nat.le_add_right _ _ | omega) only [Le_upd hb, Le_rfl, free_T hb, free_upd]; done) | fail) only [go_sem, push_cast, and_pos, Le_updF, Le_upd hb, free_T hb]
def W7 : Trans := fun args H Bd K => ∃ (x : GSignature), args = [.agg (enc (x)).toArray] ∧ ((sm x ∧ tot x ≤ 1048576) ∧ K (.agg (enc (x)).toArray) H Bd)
@[go_sem ↓] theorem W7_eq (x_symbols : List GSymbol) (H : AH) (Bd : Nat) (K : Value → AH → Nat → Prop) : W7 [.agg #[lst (x_symbols)]] H Bd K = ((sm (GSignature.mk x_symbols) ∧ tot (GSignature.mk x_symbols) ≤ 1048576) ∧ K (.agg (enc ((GSignature.mk x_symbols))).toArray) H Bd) := by
  refine propext ⟨fun h => ?_, fun h => ⟨_, rfl, h⟩⟩
  obtain ⟨x', e, h⟩ := h
  obtain ⟨xsymbols'⟩ := x'
  simp only [enc_GSignature, List.cons.injEq, Value.agg.injEq, toArr_inj, Value.int.injEq, Value.bool.injEq, Value.string.injEq, Value.slice.injEq, Value.pointer.injEq, Option.some.injEq, Addr.mk.injEq, lst_inj, true_and, and_true] at e
  obtain rfl := e
  exact h
theorem W7_ok : OK 7 W7 := by
  rintro args H Bd K ⟨x, rfl, hpre, hK⟩
  refine fn_pure pok ((Env.base _).add 19 _ W19_ok) [] _ hK Tryd.func7 rfl (rs := [.cell 2 33]) rfl Tryd.ntmps7 (by simp) Tryd.call7 (by kernel_rfl) (fun ha hb => agg_nb _ _) (fun hb ha => ?_)
  obtain ⟨h1, h2⟩ := hpre
  simp only [sm_GSignature] at h1
  simp only [tot_GSignature] at h2
  simp (maxSteps := 2000000) (disch := first | assumption | (refine asm_intro ?_; assumption) | exact Nat.le_add_right _ _ | exact Nat.le_refl _ | omega | (simp (disch := first | exact Nat.le_add_right _ _ | omega) only [Le_upd hb, Le_rfl, free_T hb, free_upd]; done) | fail) only [go_sem, push_cast, and_pos, Le_updF, Le_upd hb, free_T hb, h1]
def W37 : Trans := fun args H Bd K => ∃ (xs : List Int), args = [lst (xs)] ∧ ((sm xs ∧ tot xs ≤ 1048576) ∧ K (lst (xs)) H Bd)
@[go_sem ↓] theorem W37_eq (xs : List Int) (H : AH) (Bd : Nat) (K : Value → AH → Nat → Prop) : W37 [lst (xs)] H Bd K = ((sm xs ∧ tot xs ≤ 1048576) ∧ K (lst (xs)) H Bd) := by
  refine propext ⟨fun h => ?_, fun h => ⟨_, rfl, h⟩⟩
  obtain ⟨xs', e, h⟩ := h
  skip
  simp only [List.cons.injEq, Value.agg.injEq, toArr_inj, Value.int.injEq, Value.bool.injEq, Value.string.injEq, Value.slice.injEq, Value.pointer.injEq, Option.some.injEq, Addr.mk.injEq, lst_inj, true_and, and_true] at e
  obtain rfl := e
  exact h
theorem W37_ok : OK 37 W37 := by
  rintro args H Bd K ⟨xs, rfl, hpre, hK⟩
  refine fn_pure pok (Env.base _) [] _ hK Tryd.func37 rfl (rs := [.tmp 2]) rfl Tryd.ntmps37 (by simp) Tryd.call37 (by kernel_rfl) (fun ha hb => lst_nb _ _) (fun hb ha => ?_)
  obtain ⟨h1, h2⟩ := hpre
  have e : tot xs = xs.length + (xs.map tot).sum := tot_list xs
  simp (maxSteps := 2000000) (disch := first | assumption | (refine asm_intro ?_; assumption) | exact Nat.le_add_right _ _ | exact Nat.le_refl _ | omega | (simp (disch := first | exact Nat.le_add_right _ _ | omega) only [Le_upd hb, Le_rfl, free_T hb, free_upd]; done) | fail) only [go_sem, push_cast, and_pos, Le_updF, Le_upd hb, free_T hb]
  refine tr_fill (α := Int) hb xs (fun i => [(0, lst xs), (3, .slice (some ⟨Bd, 0, some 1⟩) xs.length (xs.length + 1)), (4, .int .i64 i)]) _ (zmake_len _ _) ⟨Nat.le_refl _, by omega⟩ (by simp only [go_sem, push_cast, and_pos, Le_updF]) (Le.refl _) ?_
  intro i L B hi hL hF hB hb'
  refine vq_conv pok (E := (Env.base _)) (PL := []) (by kernel_rfl) ?_
  have hL' : L.length = xs.length * 1 := hL
  rcases Nat.lt_or_ge i xs.length with hlt | hge
  · have e1 : xs[i]? = some xs[i] := List.getElem?_eq_getElem hlt
    have hx := sm_mem h1 (List.getElem_mem hlt)
    have hx2 : tot xs[i] ≤ (xs.map tot).sum := tot_mem hlt
    simp (maxSteps := 2000000) (disch := first | assumption | (refine asm_intro ?_; assumption) | exact Nat.le_add_right _ _ | exact Nat.le_refl _ | omega | (simp (disch := first | exact Nat.le_add_right _ _ | omega) only [Le_upd hb, Le_rfl, free_T hb, free_upd]; done) | fail) only [go_sem, push_cast, and_pos, Le_updF, Le_upd hb, free_T hb, e1, hx]
    exact ⟨_, rfl, Le.refl _⟩
  · simp (maxSteps := 2000000) (disch := first | assumption | (refine asm_intro ?_; assumption) | exact Nat.le_add_right _ _ | exact Nat.le_refl _ | omega | (simp (disch := first | exact Nat.le_add_right _ _ | omega) only [Le_upd hb, Le_rfl, free_T hb, free_upd]; done) | fail) only [go_sem, push_cast, and_pos, Le_updF, Le_upd hb, free_T hb]
    have hf : L = flat xs := by
      rw [List.take_of_length_le (by rw [hL]; exact Nat.mul_le_mul_right _ hge), List.take_of_length_le hge] at hF
      exact hF
    subst hf
    refine Tr.fin hb 3 (Nat.le_refl Bd) (by simp only [go_sem, push_cast, and_pos, Le_updF]; rfl) rfl ?_
    refine vq_conv pok (E := (Env.base _)) (PL := []) (by kernel_rfl) ?_
    simp (maxSteps := 2000000) (disch := first | assumption | (refine asm_intro ?_; assumption) | exact Nat.le_add_right _ _ | exact Nat.le_refl _ | omega | (simp (disch := first | exact Nat.le_add_right _ _ | omega) only [Le_upd hb, Le_rfl, free_T hb, free_upd]; done) | fail) only [go_sem, push_cast, and_pos, Le_updF, Le_upd hb, free_T hb]
def W20 : Trans := fun args H Bd K => ∃ (x : GRecord), args = [.agg (enc (x)).toArray] ∧ ((sm x ∧ tot x ≤ 1048576) ∧ K (.agg (enc (x)).toArray) H Bd)
@[go_sem ↓] theorem W20_eq (x_term : List Int) (x_value : Int) (H : AH) (Bd : Nat) (K : Value → AH → Nat → Prop) : W20 [.agg #[lst (x_term), .int .i64 (x_value)]] H Bd K = ((sm (GRecord.mk x_term x_value) ∧ tot (GRecord.mk x_term x_value) ≤ 1048576) ∧ K (.agg (enc ((GRecord.mk x_term x_value))).toArray) H Bd) := by
  refine propext ⟨fun h => ?_, fun h => ⟨_, rfl, h⟩⟩
  obtain ⟨x', e, h⟩ := h
  obtain ⟨xterm', xvalue'⟩ := x'
  simp only [enc_GRecord, List.cons.injEq, Value.agg.injEq, toArr_inj, Value.int.injEq, Value.bool.injEq, Value.string.injEq, Value.slice.injEq, Value.pointer.injEq, Option.some.injEq, Addr.mk.injEq, lst_inj, true_and, and_true] at e
  obtain ⟨rfl, rfl⟩ := e
  exact h
theorem W20_ok : OK 20 W20 := by
  rintro args H Bd K ⟨x, rfl, hpre, hK⟩
  refine fn_pure pok ((Env.base _).add 37 _ W37_ok) [] _ hK Tryd.func20 rfl (rs := [.cell 2 49]) rfl Tryd.ntmps20 (by simp) Tryd.call20 (by kernel_rfl) (fun ha hb => agg_nb _ _) (fun hb ha => ?_)
  obtain ⟨h1, h2⟩ := hpre
  simp only [sm_GRecord] at h1
  simp only [tot_GRecord] at h2
  simp (maxSteps := 2000000) (disch := first | assumption | (refine asm_intro ?_; assumption) | exact Nat.le_add_right _ _ | exact Nat.le_refl _ | omega | (simp (disch := first | exact Nat.le_add_right _ _ | omega) only [Le_upd hb, Le_rfl, free_T hb, free_upd]; done) | fail) only [go_sem, push_cast, and_pos, Le_updF, Le_upd hb, free_T hb, h1]
def W8 : Trans := fun args H Bd K => ∃ (xs : List GRecord), args = [lst (xs)] ∧ ((sm xs ∧ tot xs ≤ 1048576) ∧ K (lst (xs)) H Bd)
@[go_sem ↓] theorem W8_eq (xs : List GRecord) (H : AH) (Bd : Nat) (K : Value → AH → Nat → Prop) : W8 [lst (xs)] H Bd K = ((sm xs ∧ tot xs ≤ 1048576) ∧ K (lst (xs)) H Bd) := by
  refine propext ⟨fun h => ?_, fun h => ⟨_, rfl, h⟩⟩
  obtain ⟨xs', e, h⟩ := h
  skip
  simp only [List.cons.injEq, Value.agg.injEq, toArr_inj, Value.int.injEq, Value.bool.injEq, Value.string.injEq, Value.slice.injEq, Value.pointer.injEq, Option.some.injEq, Addr.mk.injEq, lst_inj, true_and, and_true] at e
  obtain rfl := e
  exact h
theorem W8_ok : OK 8 W8 := by
  rintro args H Bd K ⟨xs, rfl, hpre, hK⟩
  refine fn_pure pok ((Env.base _).add 20 _ W20_ok) [] _ hK Tryd.func8 rfl (rs := [.tmp 2]) rfl Tryd.ntmps8 (by simp) Tryd.call8 (by kernel_rfl) (fun ha hb => lst_nb _ _) (fun hb ha => ?_)
  obtain ⟨h1, h2⟩ := hpre
  have e : tot xs = xs.length + (xs.map tot).sum := tot_list xs
  simp (maxSteps := 2000000) (disch := first | assumption | (refine asm_intro ?_; assumption) | exact Nat.le_add_right _ _ | exact Nat.le_refl _ | omega | (simp (disch := first | exact Nat.le_add_right _ _ | omega) only [Le_upd hb, Le_rfl, free_T hb, free_upd]; done) | fail) only [go_sem, push_cast, and_pos, Le_updF, Le_upd hb, free_T hb]
  refine tr_fill (α := GRecord) hb xs (fun i => [(0, lst xs), (3, .slice (some ⟨Bd, 0, some 2⟩) xs.length (xs.length + 1)), (4, .int .i64 i)]) _ (zmake_len _ _) ⟨Nat.le_refl _, by omega⟩ (by simp only [go_sem, push_cast, and_pos, Le_updF]) (Le.refl _) ?_
  intro i L B hi hL hF hB hb'
  refine vq_conv pok (E := ((Env.base _).add 20 _ W20_ok)) (PL := []) (by kernel_rfl) ?_
  have hL' : L.length = xs.length * 2 := hL
  rcases Nat.lt_or_ge i xs.length with hlt | hge
  · have e1 : xs[i]? = some xs[i] := List.getElem?_eq_getElem hlt
    have hx := sm_mem h1 (List.getElem_mem hlt)
    have hx2 : tot xs[i] ≤ (xs.map tot).sum := tot_mem hlt
    simp (maxSteps := 2000000) (disch := first | assumption | (refine asm_intro ?_; assumption) | exact Nat.le_add_right _ _ | exact Nat.le_refl _ | omega | (simp (disch := first | exact Nat.le_add_right _ _ | omega) only [Le_upd hb, Le_rfl, free_T hb, free_upd]; done) | fail) only [go_sem, push_cast, and_pos, Le_updF, Le_upd hb, free_T hb, e1, hx]
    exact ⟨_, rfl, Le.refl _⟩
  · simp (maxSteps := 2000000) (disch := first | assumption | (refine asm_intro ?_; assumption) | exact Nat.le_add_right _ _ | exact Nat.le_refl _ | omega | (simp (disch := first | exact Nat.le_add_right _ _ | omega) only [Le_upd hb, Le_rfl, free_T hb, free_upd]; done) | fail) only [go_sem, push_cast, and_pos, Le_updF, Le_upd hb, free_T hb]
    have hf : L = flat xs := by
      rw [List.take_of_length_le (by rw [hL]; exact Nat.mul_le_mul_right _ hge), List.take_of_length_le hge] at hF
      exact hF
    subst hf
    refine Tr.fin hb 3 (Nat.le_refl Bd) (by simp only [go_sem, push_cast, and_pos, Le_updF]; rfl) rfl ?_
    refine vq_conv pok (E := ((Env.base _).add 20 _ W20_ok)) (PL := []) (by kernel_rfl) ?_
    simp (maxSteps := 2000000) (disch := first | assumption | (refine asm_intro ?_; assumption) | exact Nat.le_add_right _ _ | exact Nat.le_refl _ | omega | (simp (disch := first | exact Nat.le_add_right _ _ | omega) only [Le_upd hb, Le_rfl, free_T hb, free_upd]; done) | fail) only [go_sem, push_cast, and_pos, Le_updF, Le_upd hb, free_T hb]
def W31 : Trans := fun args H Bd K => ∃ (s : ByteArray), args = [.string (s)] ∧ ((s.size ≤ 281474976710656) ∧ K (.bool (isNm s)) H Bd)
@[go_sem ↓] theorem W31_eq (s : ByteArray) (H : AH) (Bd : Nat) (K : Value → AH → Nat → Prop) : W31 [.string (s)] H Bd K = ((s.size ≤ 281474976710656) ∧ K (.bool (isNm s)) H Bd) := by
  refine propext ⟨fun h => ?_, fun h => ⟨_, rfl, h⟩⟩
  obtain ⟨s', e, h⟩ := h
  skip
  simp only [List.cons.injEq, Value.agg.injEq, toArr_inj, Value.int.injEq, Value.bool.injEq, Value.string.injEq, Value.slice.injEq, Value.pointer.injEq, Option.some.injEq, Addr.mk.injEq, lst_inj, true_and, and_true] at e
  obtain rfl := e
  exact h
set_option maxHeartbeats 2000000 in
theorem W31_ok : OK 31 W31 := by
  rintro args H Bd K ⟨s, rfl, hpre, hK⟩
  refine fn_pure pok (Env.base _) [(1, [], [], (.k 4 (.grp false 7 10 3 [8, 9, 10] 11 none (.k 3 .nil) .nil))), (6, [], [], (.k 5 (.grp false 22 26 4 [23, 24, 25, 26] 27 none (.k 4 .nil) .nil)))] _ hK Tryd.func31 rfl (rs := [.tmp 2]) rfl Tryd.ntmps31 (by simp) Tryd.call31 (by kernel_rfl) (fun ha hb => .bool _) (fun hb ha => ?_)
  simp (maxSteps := 2000000) (disch := first | assumption | (refine asm_intro ?_; assumption) | exact Nat.le_add_right _ _ | exact Nat.le_refl _ | omega | (simp (disch := first | exact Nat.le_add_right _ _ | omega) only [Le_upd hb, Le_rfl, free_T hb, free_upd]; done) | fail) only [go_sem, push_cast, and_pos, Le_updF, Le_upd hb, free_T hb]
  refine ⟨fun h => ?_, fun h1 h2 => ?_⟩
  · unfold isNm; grind
  refine tr_for (fun i => ∀ j, j < i → 97 ≤ byteAt s j ∧ byteAt s j ≤ 122) (s.size) (fun i => [(0, .string s), (3, .int .i64 i)]) (by simp) (by simp only [go_sem, push_cast, and_pos, Le_updF]) ?_
  intro i Bi hIi hii hBi
  refine vq_conv pok (E := (Env.base _)) (PL := [(1, [], [], (.k 4 (.grp false 7 10 3 [8, 9, 10] 11 none (.k 3 .nil) .nil))), (6, [], [], (.k 5 (.grp false 22 26 4 [23, 24, 25, 26] 27 none (.k 4 .nil) .nil)))]) (by kernel_rfl) ?_
  rcases Nat.lt_or_ge i (s.size) with hlti | hgei
  · simp (maxSteps := 2000000) (disch := first | assumption | (refine asm_intro ?_; assumption) | exact Nat.le_add_right _ _ | exact Nat.le_refl _ | omega | (simp (disch := first | exact Nat.le_add_right _ _ | omega) only [Le_upd hb, Le_rfl, free_T hb, free_upd]; done) | fail) only [go_sem, push_cast, and_pos, Le_updF, Le_upd hb, free_T hb]
    unfold isNm
    all_goals first | done | trivial | ((try simp only [Cnp, Imp]); grind)
  · simp (maxSteps := 2000000) (disch := first | assumption | (refine asm_intro ?_; assumption) | exact Nat.le_add_right _ _ | exact Nat.le_refl _ | omega | (simp (disch := first | exact Nat.le_add_right _ _ | omega) only [Le_upd hb, Le_rfl, free_T hb, free_upd]; done) | fail) only [go_sem, push_cast, and_pos, Le_updF, Le_upd hb, free_T hb]
    refine vq_conv pok (E := (Env.base _)) (PL := [(1, [], [], (.k 4 (.grp false 7 10 3 [8, 9, 10] 11 none (.k 3 .nil) .nil))), (6, [], [], (.k 5 (.grp false 22 26 4 [23, 24, 25, 26] 27 none (.k 4 .nil) .nil)))]) (by kernel_rfl) ?_
    simp (maxSteps := 2000000) (disch := first | assumption | (refine asm_intro ?_; assumption) | exact Nat.le_add_right _ _ | exact Nat.le_refl _ | omega | (simp (disch := first | exact Nat.le_add_right _ _ | omega) only [Le_upd hb, Le_rfl, free_T hb, free_upd]; done) | fail) only [go_sem, push_cast, and_pos, Le_updF, Le_upd hb, free_T hb]
    unfold isNm
    all_goals first | done | trivial | ((try simp only [Cnp, Imp]); grind)
def W17 : Trans := fun args H Bd K => ∃ (n : Int) (low : Int) (high : Int), args = [.int .i64 (n), .int .i64 (low), .int .i64 (high)] ∧ (K (.bool (decide (low ≤ n ∧ n ≤ high))) H Bd)
@[go_sem ↓] theorem W17_eq (n : Int) (low : Int) (high : Int) (H : AH) (Bd : Nat) (K : Value → AH → Nat → Prop) : W17 [.int .i64 (n), .int .i64 (low), .int .i64 (high)] H Bd K = (K (.bool (decide (low ≤ n ∧ n ≤ high))) H Bd) := by
  refine propext ⟨fun h => ?_, fun h => ⟨_, _, _, rfl, h⟩⟩
  obtain ⟨n', low', high', e, h⟩ := h
  skip
  skip
  skip
  simp only [List.cons.injEq, Value.agg.injEq, toArr_inj, Value.int.injEq, Value.bool.injEq, Value.string.injEq, Value.slice.injEq, Value.pointer.injEq, Option.some.injEq, Addr.mk.injEq, lst_inj, true_and, and_true] at e
  obtain ⟨rfl, rfl, rfl⟩ := e
  exact h
theorem W17_ok : OK 17 W17 := by
  rintro args H Bd K ⟨n, low, high, rfl, hK⟩
  refine fn_pure pok (Env.base _) [(1, [], [], (.k 4 (.grp true 10 13 3 [11, 12, 13] 14 none (.k 3 .nil) (.k 1 .nil))))] _ hK Tryd.func17 rfl (rs := [.tmp 6]) rfl Tryd.ntmps17 (by simp) Tryd.call17 (by kernel_rfl) (fun ha hb => .bool _) (fun hb ha => ?_)
  simp (maxSteps := 2000000) (disch := first | assumption | (refine asm_intro ?_; assumption) | exact Nat.le_add_right _ _ | exact Nat.le_refl _ | omega | (simp (disch := first | exact Nat.le_add_right _ _ | omega) only [Le_upd hb, Le_rfl, free_T hb, free_upd]; done) | fail) only [go_sem, push_cast, and_pos, Le_updF, Le_upd hb, free_T hb]
  all_goals first | done | trivial | ((try simp only [Cnp, Imp]); grind)
def W15 : Trans := fun args H Bd K => ∃ (s : GSignature), args = [.agg (enc (s)).toArray] ∧ ((sm s) ∧ K (.int .i64 (sigF s)) H Bd)
@[go_sem ↓] theorem W15_eq (s_symbols : List GSymbol) (H : AH) (Bd : Nat) (K : Value → AH → Nat → Prop) : W15 [.agg #[lst (s_symbols)]] H Bd K = ((sm (GSignature.mk s_symbols)) ∧ K (.int .i64 (sigF (GSignature.mk s_symbols))) H Bd) := by
  refine propext ⟨fun h => ?_, fun h => ⟨_, rfl, h⟩⟩
  obtain ⟨s', e, h⟩ := h
  obtain ⟨ssymbols'⟩ := s'
  simp only [enc_GSignature, List.cons.injEq, Value.agg.injEq, toArr_inj, Value.int.injEq, Value.bool.injEq, Value.string.injEq, Value.slice.injEq, Value.pointer.injEq, Option.some.injEq, Addr.mk.injEq, lst_inj, true_and, and_true] at e
  obtain rfl := e
  exact h
set_option maxHeartbeats 2000000 in
theorem W15_ok : OK 15 W15 := by
  rintro args H Bd K ⟨s, rfl, hpre, hK⟩
  refine fn_pure pok (((Env.base _).add 31 _ W31_ok).add 17 _ W17_ok) [(2, [], [], (.k 3 (.grp false 13 15 2 [14, 15] 16 none (.k 2 .nil) .nil))), (17, [0,1,2,3,4,5,6,7,8,9,10,11,12], [⟨0, [], []⟩, ⟨1, [], []⟩, ⟨2, [], []⟩, ⟨3, [], []⟩, ⟨4, [], []⟩, ⟨5, [], []⟩, ⟨6, [], []⟩, ⟨7, [], []⟩, ⟨8, [], []⟩, ⟨9, [], []⟩, ⟨10, [], []⟩, ⟨11, [], []⟩, ⟨12, [], []⟩], .nil)] _ hK Tryd.func15 rfl (rs := [.tmp 2]) rfl Tryd.ntmps15 (by simp) Tryd.call15 (by kernel_rfl) (fun ha hb => .int _ _) (fun hb ha => ?_)
  simp only [sm_GSignature] at hpre
  have hlen := sm_len hpre
  simp (maxSteps := 2000000) (disch := first | assumption | (refine asm_intro ?_; assumption) | exact Nat.le_add_right _ _ | exact Nat.le_refl _ | omega | (simp (disch := first | exact Nat.le_add_right _ _ | omega) only [Le_upd hb, Le_rfl, free_T hb, free_upd]; done) | fail) only [go_sem, push_cast, and_pos, Le_updF, Le_upd hb, free_T hb]
  refine ⟨fun h => by unfold sigF; rw [if_pos (by omega)], fun h1 h2 => ?_⟩
  have hs : sigF s = sigG s := by unfold sigF; rw [if_neg (by omega)]
  rw [hs]
  refine tr_for (fun i => symL (s.symbols.drop i) = symL s.symbols) (s.symbols.length) (fun i => [(1, .pointer (some ⟨Bd, 0, none⟩)), (3, .int .i64 s.symbols.length), (4, .int .i64 i)]) (by simp) (by simp only [go_sem, push_cast, and_pos, Le_updF]) ?_
  intro i Bi hIi hii hBi
  refine vq_conv pok (E := (((Env.base _).add 31 _ W31_ok).add 17 _ W17_ok)) (PL := [(2, [], [], (.k 3 (.grp false 13 15 2 [14, 15] 16 none (.k 2 .nil) .nil))), (17, [0,1,2,3,4,5,6,7,8,9,10,11,12], [⟨0, [], []⟩, ⟨1, [], []⟩, ⟨2, [], []⟩, ⟨3, [], []⟩, ⟨4, [], []⟩, ⟨5, [], []⟩, ⟨6, [], []⟩, ⟨7, [], []⟩, ⟨8, [], []⟩, ⟨9, [], []⟩, ⟨10, [], []⟩, ⟨11, [], []⟩, ⟨12, [], []⟩], .nil)]) (by kernel_rfl) ?_
  rcases Nat.lt_or_ge i (s.symbols.length) with hlti | hgei
  · have e1 : s.symbols[i]? = some s.symbols[i] := List.getElem?_eq_getElem hlti
    have hd := List.drop_eq_getElem_cons hlti
    have hx := sm_mem hpre (List.getElem_mem hlti)
    simp only [sm_GSymbol, sm_str, sm_int, and_true] at hx
    rw [hd, symL] at hIi
    simp (maxSteps := 2000000) (disch := first | assumption | (refine asm_intro ?_; assumption) | exact Nat.le_add_right _ _ | exact Nat.le_refl _ | omega | (simp (disch := first | exact Nat.le_add_right _ _ | omega) only [Le_upd hb, Le_rfl, free_T hb, free_upd]; done) | fail) only [go_sem, push_cast, and_pos, Le_updF, Le_upd hb, free_T hb, e1, hx]
    generalize symL (List.drop (i + 1) s.symbols) = q at *
    unfold sigG
    all_goals first | done | trivial | ((try simp only [Cnp, Imp]); grind)
  · simp (maxSteps := 2000000) (disch := first | assumption | (refine asm_intro ?_; assumption) | exact Nat.le_add_right _ _ | exact Nat.le_refl _ | omega | (simp (disch := first | exact Nat.le_add_right _ _ | omega) only [Le_upd hb, Le_rfl, free_T hb, free_upd]; done) | fail) only [go_sem, push_cast, and_pos, Le_updF, Le_upd hb, free_T hb]
    refine vq_conv pok (E := (((Env.base _).add 31 _ W31_ok).add 17 _ W17_ok)) (PL := [(2, [], [], (.k 3 (.grp false 13 15 2 [14, 15] 16 none (.k 2 .nil) .nil))), (17, [0,1,2,3,4,5,6,7,8,9,10,11,12], [⟨0, [], []⟩, ⟨1, [], []⟩, ⟨2, [], []⟩, ⟨3, [], []⟩, ⟨4, [], []⟩, ⟨5, [], []⟩, ⟨6, [], []⟩, ⟨7, [], []⟩, ⟨8, [], []⟩, ⟨9, [], []⟩, ⟨10, [], []⟩, ⟨11, [], []⟩, ⟨12, [], []⟩], .nil)]) (by kernel_rfl) ?_
    simp (maxSteps := 2000000) (disch := first | assumption | (refine asm_intro ?_; assumption) | exact Nat.le_add_right _ _ | exact Nat.le_refl _ | omega | (simp (disch := first | exact Nat.le_add_right _ _ | omega) only [Le_upd hb, Le_rfl, free_T hb, free_upd]; done) | fail) only [go_sem, push_cast, and_pos, Le_updF, Le_upd hb, free_T hb]
    have h0 : symL s.symbols = 0 := by rw [← hIi, List.drop_of_length_le hgei]; rfl
    refine tr_for (fun j => ∀ a b x y, b < a → a < j → s.symbols[a]? = some x → s.symbols[b]? = some y → x.name ≠ y.name) (s.symbols.length) (fun j => [(1, .pointer (some ⟨Bd, 0, none⟩)), (3, .int .i64 s.symbols.length), (5, .int .i64 j)]) (by simp) (by simp only [go_sem, push_cast, and_pos, Le_updF]) ?_
    intro j Bj hIj hij hBj
    refine vq_conv pok (E := (((Env.base _).add 31 _ W31_ok).add 17 _ W17_ok)) (PL := [(2, [], [], (.k 3 (.grp false 13 15 2 [14, 15] 16 none (.k 2 .nil) .nil))), (17, [0,1,2,3,4,5,6,7,8,9,10,11,12], [⟨0, [], []⟩, ⟨1, [], []⟩, ⟨2, [], []⟩, ⟨3, [], []⟩, ⟨4, [], []⟩, ⟨5, [], []⟩, ⟨6, [], []⟩, ⟨7, [], []⟩, ⟨8, [], []⟩, ⟨9, [], []⟩, ⟨10, [], []⟩, ⟨11, [], []⟩, ⟨12, [], []⟩], .nil)]) (by kernel_rfl) ?_
    rcases Nat.lt_or_ge j (s.symbols.length) with hltj | hgej
    · have e1 : s.symbols[j]? = some s.symbols[j] := List.getElem?_eq_getElem hltj
      simp (maxSteps := 2000000) (disch := first | assumption | (refine asm_intro ?_; assumption) | exact Nat.le_add_right _ _ | exact Nat.le_refl _ | omega | (simp (disch := first | exact Nat.le_add_right _ _ | omega) only [Le_upd hb, Le_rfl, free_T hb, free_upd]; done) | fail) only [go_sem, push_cast, and_pos, Le_updF, Le_upd hb, free_T hb, e1]
      refine tr_for (fun k => ∀ b y, b < k → s.symbols[b]? = some y → s.symbols[j].name ≠ y.name) (j) (fun k => [(1, .pointer (some ⟨Bd, 0, none⟩)), (3, .int .i64 s.symbols.length), (5, .int .i64 j), (6, .int .i64 k)]) (by simp) (by simp only [go_sem, push_cast, and_pos, Le_updF]) ?_
      intro k Bk hIk hik hBk
      refine vq_conv pok (E := (((Env.base _).add 31 _ W31_ok).add 17 _ W17_ok)) (PL := [(2, [], [], (.k 3 (.grp false 13 15 2 [14, 15] 16 none (.k 2 .nil) .nil))), (17, [0,1,2,3,4,5,6,7,8,9,10,11,12], [⟨0, [], []⟩, ⟨1, [], []⟩, ⟨2, [], []⟩, ⟨3, [], []⟩, ⟨4, [], []⟩, ⟨5, [], []⟩, ⟨6, [], []⟩, ⟨7, [], []⟩, ⟨8, [], []⟩, ⟨9, [], []⟩, ⟨10, [], []⟩, ⟨11, [], []⟩, ⟨12, [], []⟩], .nil)]) (by kernel_rfl) ?_
      rcases Nat.lt_or_ge k (j) with hltk | hgek
      · have e2 : s.symbols[k]? = some (s.symbols[k]'(by omega)) := List.getElem?_eq_getElem _
        simp (maxSteps := 2000000) (disch := first | assumption | (refine asm_intro ?_; assumption) | exact Nat.le_add_right _ _ | exact Nat.le_refl _ | omega | (simp (disch := first | exact Nat.le_add_right _ _ | omega) only [Le_upd hb, Le_rfl, free_T hb, free_upd]; done) | fail) only [go_sem, push_cast, and_pos, Le_updF, Le_upd hb, free_T hb, e1, e2]
        refine ⟨fun h => ?_, fun h => fun b y hb1 hb2 => ?_⟩
        · unfold sigG
          rw [if_neg (by simp [h0]), if_pos (nodup_map_not hltk hltj h)]
        · by_cases e : b = k
          · subst e; rw [e2] at hb2; cases hb2; exact h
          · exact hIk b y (by omega) hb2
      · simp (maxSteps := 2000000) (disch := first | assumption | (refine asm_intro ?_; assumption) | exact Nat.le_add_right _ _ | exact Nat.le_refl _ | omega | (simp (disch := first | exact Nat.le_add_right _ _ | omega) only [Le_upd hb, Le_rfl, free_T hb, free_upd]; done) | fail) only [go_sem, push_cast, and_pos, Le_updF, Le_upd hb, free_T hb]
        intro a b x y h1 h2 h3 h4
        by_cases e : a = j
        · subst e; rw [e1] at h3; cases h3; exact hIk b y (by omega) h4
        · exact hIj a b x y h1 (by omega) h3 h4
    · simp (maxSteps := 2000000) (disch := first | assumption | (refine asm_intro ?_; assumption) | exact Nat.le_add_right _ _ | exact Nat.le_refl _ | omega | (simp (disch := first | exact Nat.le_add_right _ _ | omega) only [Le_upd hb, Le_rfl, free_T hb, free_upd]; done) | fail) only [go_sem, push_cast, and_pos, Le_updF, Le_upd hb, free_T hb]
      refine vq_conv pok (E := (((Env.base _).add 31 _ W31_ok).add 17 _ W17_ok)) (PL := [(2, [], [], (.k 3 (.grp false 13 15 2 [14, 15] 16 none (.k 2 .nil) .nil))), (17, [0,1,2,3,4,5,6,7,8,9,10,11,12], [⟨0, [], []⟩, ⟨1, [], []⟩, ⟨2, [], []⟩, ⟨3, [], []⟩, ⟨4, [], []⟩, ⟨5, [], []⟩, ⟨6, [], []⟩, ⟨7, [], []⟩, ⟨8, [], []⟩, ⟨9, [], []⟩, ⟨10, [], []⟩, ⟨11, [], []⟩, ⟨12, [], []⟩], .nil)]) (by kernel_rfl) ?_
      simp (maxSteps := 2000000) (disch := first | assumption | (refine asm_intro ?_; assumption) | exact Nat.le_add_right _ _ | exact Nat.le_refl _ | omega | (simp (disch := first | exact Nat.le_add_right _ _ | omega) only [Le_upd hb, Le_rfl, free_T hb, free_upd]; done) | fail) only [go_sem, push_cast, and_pos, Le_updF, Le_upd hb, free_T hb]
      have h7 : (s.symbols.map (·.name)).Nodup := nodup_map fun i j x y h1 h2 h3 h4 => hIj i j x y h1 (by omega) h3 h4
      have hg : sigG s = if s.symbols.any (fun x => decide (x.arity = 0)) = true then 0 else 4 := by
        unfold sigG
        rw [if_neg (by simp [h0]), if_neg (by simp [h7])]
      rw [hg]
      refine tr_for (fun l => ∀ b, b < l → ∀ y, s.symbols[b]? = some y → decide (y.arity = 0) = false) (s.symbols.length) (fun l => [(1, .pointer (some ⟨Bd, 0, none⟩)), (3, .int .i64 s.symbols.length), (7, .int .i64 l)]) (by simp) (by simp only [go_sem, push_cast, and_pos, Le_updF]) ?_
      intro l Bl hIl hil hBl
      refine vq_conv pok (E := (((Env.base _).add 31 _ W31_ok).add 17 _ W17_ok)) (PL := [(2, [], [], (.k 3 (.grp false 13 15 2 [14, 15] 16 none (.k 2 .nil) .nil))), (17, [0,1,2,3,4,5,6,7,8,9,10,11,12], [⟨0, [], []⟩, ⟨1, [], []⟩, ⟨2, [], []⟩, ⟨3, [], []⟩, ⟨4, [], []⟩, ⟨5, [], []⟩, ⟨6, [], []⟩, ⟨7, [], []⟩, ⟨8, [], []⟩, ⟨9, [], []⟩, ⟨10, [], []⟩, ⟨11, [], []⟩, ⟨12, [], []⟩], .nil)]) (by kernel_rfl) ?_
      rcases Nat.lt_or_ge l (s.symbols.length) with hltl | hgel
      · have e2 : s.symbols[l]? = some s.symbols[l] := List.getElem?_eq_getElem hltl
        simp (maxSteps := 2000000) (disch := first | assumption | (refine asm_intro ?_; assumption) | exact Nat.le_add_right _ _ | exact Nat.le_refl _ | omega | (simp (disch := first | exact Nat.le_add_right _ _ | omega) only [Le_upd hb, Le_rfl, free_T hb, free_upd]; done) | fail) only [go_sem, push_cast, and_pos, Le_updF, Le_upd hb, free_T hb, e2]
        refine ⟨fun h => ?_, fun h => fun b hb1 y hb2 => ?_⟩
        · rw [if_pos (any_hit hltl (by simpa using h))]
        · by_cases e : b = l
          · subst e; rw [e2] at hb2; cases hb2; simpa using h
          · simpa using hIl b (by omega) y hb2
      · simp (maxSteps := 2000000) (disch := first | assumption | (refine asm_intro ?_; assumption) | exact Nat.le_add_right _ _ | exact Nat.le_refl _ | omega | (simp (disch := first | exact Nat.le_add_right _ _ | omega) only [Le_upd hb, Le_rfl, free_T hb, free_upd]; done) | fail) only [go_sem, push_cast, and_pos, Le_updF, Le_upd hb, free_T hb]
        refine vq_conv pok (E := (((Env.base _).add 31 _ W31_ok).add 17 _ W17_ok)) (PL := [(2, [], [], (.k 3 (.grp false 13 15 2 [14, 15] 16 none (.k 2 .nil) .nil))), (17, [0,1,2,3,4,5,6,7,8,9,10,11,12], [⟨0, [], []⟩, ⟨1, [], []⟩, ⟨2, [], []⟩, ⟨3, [], []⟩, ⟨4, [], []⟩, ⟨5, [], []⟩, ⟨6, [], []⟩, ⟨7, [], []⟩, ⟨8, [], []⟩, ⟨9, [], []⟩, ⟨10, [], []⟩, ⟨11, [], []⟩, ⟨12, [], []⟩], .nil)]) (by kernel_rfl) ?_
        simp (maxSteps := 2000000) (disch := first | assumption | (refine asm_intro ?_; assumption) | exact Nat.le_add_right _ _ | exact Nat.le_refl _ | omega | (simp (disch := first | exact Nat.le_add_right _ _ | omega) only [Le_upd hb, Le_rfl, free_T hb, free_upd]; done) | fail) only [go_sem, push_cast, and_pos, Le_updF, Le_upd hb, free_T hb]
        rw [if_neg (by rw [any_false fun j hj x hx => hIl j (by omega) x hx]; simp)]
def V53 : Trans := fun args H Bd K => ∃ (s : GSignature) (n : Int), args = [.agg (enc (s)).toArray, .int .i64 (n)] ∧ ((sm s ∧ R64 n) ∧ K (.bool (isSym s n)) H Bd)
@[go_sem ↓] theorem V53_eq (s_symbols : List GSymbol) (n : Int) (H : AH) (Bd : Nat) (K : Value → AH → Nat → Prop) : V53 [.agg #[lst (s_symbols)], .int .i64 (n)] H Bd K = ((sm (GSignature.mk s_symbols) ∧ R64 n) ∧ K (.bool (isSym (GSignature.mk s_symbols) n)) H Bd) := by
  refine propext ⟨fun h => ?_, fun h => ⟨_, _, rfl, h⟩⟩
  obtain ⟨s', n', e, h⟩ := h
  obtain ⟨ssymbols'⟩ := s'
  skip
  simp only [enc_GSignature, enc_int, enc_str, enc_list, enc_bool, enc_byte, List.cons.injEq, Value.agg.injEq, toArr_inj, Value.int.injEq, Value.bool.injEq, Value.string.injEq, Value.slice.injEq, Value.pointer.injEq, Option.some.injEq, Addr.mk.injEq, lst_inj, true_and, and_true] at e
  obtain ⟨rfl, rfl⟩ := e
  exact h
def W53 : Trans := fun args H Bd K => ∃ (ps vn : Value), args = [ps, vn] ∧ Yld (cellsAt H 1 ps) fun cs => callW V53 [.agg cs.toArray, vn] H Bd K
@[go_sem ↓] theorem W53_eq (ps vn : Value) (H : AH) (Bd : Nat) (K : Value → AH → Nat → Prop) : W53 [ps, vn] H Bd K = (Yld (cellsAt H 1 ps) fun cs => callW V53 (idS [.agg cs.toArray, vn]) H Bd K) := by
  refine propext ⟨fun h => ?_, fun h => ⟨_, _, rfl, h⟩⟩
  obtain ⟨ps', vn', e, h⟩ := h
  simp only [List.cons.injEq, and_true] at e
  obtain ⟨rfl, rfl⟩ := e
  exact h
theorem W53_ok : OK 53 W53 := by
  rintro args H Bd K ⟨ps, vn, rfl, cs, es, h⟩
  obtain ⟨s, n, e, hpre, hK⟩ := h
  simp only [List.cons.injEq, and_true] at e
  obtain ⟨Es, rfl⟩ := e
  obtain rfl := agg_inj Es
  refine fn_pure pok ((Env.base _).add 17 _ W17_ok) [] _ hK Tryd.func53 rfl (rs := [.tmp 4]) rfl Tryd.ntmps53 (by simp) Tryd.call53 (by kernel_rfl) (fun ha hb => .bool _) (fun hb ha => ?_)
  have Ps := cellsAt_out es (NB.vpok (ha ps (by simp)))
  simp only [enc_GSignature] at Ps
  obtain ⟨h1, h2⟩ := hpre
  simp only [sm_GSignature] at h1
  have hlen := sm_len h1
  simp (maxSteps := 2000000) (disch := first | assumption | (refine asm_intro ?_; assumption) | exact Nat.le_add_right _ _ | exact Nat.le_refl _ | omega | (simp (disch := first | exact Nat.le_add_right _ _ | omega) only [Le_upd hb, Le_rfl, free_T hb, free_upd]; done) | fail) only [go_sem, push_cast, and_pos, Le_updF, Le_upd hb, free_T hb, Ps.nil, Ps.fldL (m := 1) rfl, Ps.ldL (m := 1) rfl, Ps.ld0L (m := 1) rfl, Ps.cellsL (m := 1) rfl, Ps.cellsOL (m := 1) rfl]
  unfold isSym
  all_goals first | done | trivial | ((try simp only [Cnp, Imp]); grind)
def V32 : Trans := fun args H Bd K => ∃ (s : GSignature) (n : Int), args = [.agg (enc (s)).toArray, .int .i64 (n)] ∧ ((sm s ∧ R64 n) ∧ K (.bool (isNode s n)) H Bd)
@[go_sem ↓] theorem V32_eq (s_symbols : List GSymbol) (n : Int) (H : AH) (Bd : Nat) (K : Value → AH → Nat → Prop) : V32 [.agg #[lst (s_symbols)], .int .i64 (n)] H Bd K = ((sm (GSignature.mk s_symbols) ∧ R64 n) ∧ K (.bool (isNode (GSignature.mk s_symbols) n)) H Bd) := by
  refine propext ⟨fun h => ?_, fun h => ⟨_, _, rfl, h⟩⟩
  obtain ⟨s', n', e, h⟩ := h
  obtain ⟨ssymbols'⟩ := s'
  skip
  simp only [enc_GSignature, enc_int, enc_str, enc_list, enc_bool, enc_byte, List.cons.injEq, Value.agg.injEq, toArr_inj, Value.int.injEq, Value.bool.injEq, Value.string.injEq, Value.slice.injEq, Value.pointer.injEq, Option.some.injEq, Addr.mk.injEq, lst_inj, true_and, and_true] at e
  obtain ⟨rfl, rfl⟩ := e
  exact h
def W32 : Trans := fun args H Bd K => ∃ (ps vn : Value), args = [ps, vn] ∧ Yld (cellsAt H 1 ps) fun cs => callW V32 [.agg cs.toArray, vn] H Bd K
@[go_sem ↓] theorem W32_eq (ps vn : Value) (H : AH) (Bd : Nat) (K : Value → AH → Nat → Prop) : W32 [ps, vn] H Bd K = (Yld (cellsAt H 1 ps) fun cs => callW V32 (idS [.agg cs.toArray, vn]) H Bd K) := by
  refine propext ⟨fun h => ?_, fun h => ⟨_, _, rfl, h⟩⟩
  obtain ⟨ps', vn', e, h⟩ := h
  simp only [List.cons.injEq, and_true] at e
  obtain ⟨rfl, rfl⟩ := e
  exact h
theorem W32_ok : OK 32 W32 := by
  rintro args H Bd K ⟨ps, vn, rfl, cs, es, h⟩
  obtain ⟨s, n, e, hpre, hK⟩ := h
  simp only [List.cons.injEq, and_true] at e
  obtain ⟨Es, rfl⟩ := e
  obtain rfl := agg_inj Es
  refine fn_pure pok (((Env.base _).add 53 _ W53_ok).add 17 _ W17_ok) [(1, [], [], (.k 4 (.grp false 8 10 2 [9, 10] 11 none (.k 2 .nil) (.k 1 .nil))))] _ hK Tryd.func32 rfl (rs := [.tmp 4]) rfl Tryd.ntmps32 (by simp) Tryd.call32 (by kernel_rfl) (fun ha hb => .bool _) (fun hb ha => ?_)
  have Ps := cellsAt_out es (NB.vpok (ha ps (by simp)))
  simp only [enc_GSignature] at Ps
  obtain ⟨h1, h2⟩ := hpre
  simp (maxSteps := 2000000) (disch := first | assumption | (refine asm_intro ?_; assumption) | exact Nat.le_add_right _ _ | exact Nat.le_refl _ | omega | (simp (disch := first | exact Nat.le_add_right _ _ | omega) only [Le_upd hb, Le_rfl, free_T hb, free_upd]; done) | fail) only [go_sem, push_cast, and_pos, Le_updF, Le_upd hb, free_T hb, Ps.nil, Ps.fldL (m := 1) rfl, Ps.ldL (m := 1) rfl, Ps.ld0L (m := 1) rfl, Ps.cellsL (m := 1) rfl, Ps.cellsOL (m := 1) rfl, h1, h2]
  simp [isNode]
def V33 : Trans := fun args H Bd K => ∃ (s : GSignature) (t : List Int) (a : Int), args = [.agg (enc (s)).toArray, lst (t), .int .i64 (a)] ∧ ((sm s ∧ sm t ∧ sigF s = 0 ∧ nodes s t ∧ 0 ≤ a ∧ a ≤ t.length) ∧ K (.int .i64 (ep s t 1 a.toNat)) H Bd)
@[go_sem ↓] theorem V33_eq (s_symbols : List GSymbol) (t : List Int) (a : Int) (H : AH) (Bd : Nat) (K : Value → AH → Nat → Prop) : V33 [.agg #[lst (s_symbols)], lst (t), .int .i64 (a)] H Bd K = ((sm (GSignature.mk s_symbols) ∧ sm t ∧ sigF (GSignature.mk s_symbols) = 0 ∧ nodes (GSignature.mk s_symbols) t ∧ 0 ≤ a ∧ a ≤ t.length) ∧ K (.int .i64 (ep (GSignature.mk s_symbols) t 1 a.toNat)) H Bd) := by
  refine propext ⟨fun h => ?_, fun h => ⟨_, _, _, rfl, h⟩⟩
  obtain ⟨s', t', a', e, h⟩ := h
  obtain ⟨ssymbols'⟩ := s'
  skip
  skip
  simp only [enc_GSignature, enc_int, enc_str, enc_list, enc_bool, enc_byte, List.cons.injEq, Value.agg.injEq, toArr_inj, Value.int.injEq, Value.bool.injEq, Value.string.injEq, Value.slice.injEq, Value.pointer.injEq, Option.some.injEq, Addr.mk.injEq, lst_inj, true_and, and_true] at e
  obtain ⟨rfl, rfl, rfl⟩ := e
  exact h
def W33 : Trans := fun args H Bd K => ∃ (ps vt va : Value), args = [ps, vt, va] ∧ Yld (cellsAt H 1 ps) fun cs => callW V33 [.agg cs.toArray, vt, va] H Bd K
@[go_sem ↓] theorem W33_eq (ps vt va : Value) (H : AH) (Bd : Nat) (K : Value → AH → Nat → Prop) : W33 [ps, vt, va] H Bd K = (Yld (cellsAt H 1 ps) fun cs => callW V33 (idS [.agg cs.toArray, vt, va]) H Bd K) := by
  refine propext ⟨fun h => ?_, fun h => ⟨_, _, _, rfl, h⟩⟩
  obtain ⟨ps', vt', va', e, h⟩ := h
  simp only [List.cons.injEq, and_true] at e
  obtain ⟨rfl, rfl, rfl⟩ := e
  exact h
def Q33 (N : Nat) : Trans := fun args H Bd K => ∃ (s : GSignature) (t : List Int) (a : Int), args = [.agg (enc (s)).toArray, lst (t), .int .i64 (a)] ∧ (((sm s ∧ sm t ∧ sigF s = 0 ∧ nodes s t ∧ 0 ≤ a ∧ a ≤ t.length) ∧ (t.length + 1 - a.toNat) < N) ∧ K (.int .i64 (ep s t 1 a.toNat)) H Bd)
@[go_sem ↓] theorem Q33_eq (N : Nat) (s_symbols : List GSymbol) (t : List Int) (a : Int) (H : AH) (Bd : Nat) (K : Value → AH → Nat → Prop) : Q33 N [.agg #[lst (s_symbols)], lst (t), .int .i64 (a)] H Bd K = (((sm (GSignature.mk s_symbols) ∧ sm t ∧ sigF (GSignature.mk s_symbols) = 0 ∧ nodes (GSignature.mk s_symbols) t ∧ 0 ≤ a ∧ a ≤ t.length) ∧ (t.length + 1 - a.toNat) < N) ∧ K (.int .i64 (ep (GSignature.mk s_symbols) t 1 a.toNat)) H Bd) := by
  refine propext ⟨fun h => ?_, fun h => ⟨_, _, _, rfl, h⟩⟩
  obtain ⟨s', t', a', e, h⟩ := h
  obtain ⟨ssymbols'⟩ := s'
  skip
  skip
  simp only [enc_GSignature, enc_int, enc_str, enc_list, enc_bool, enc_byte, List.cons.injEq, Value.agg.injEq, toArr_inj, Value.int.injEq, Value.bool.injEq, Value.string.injEq, Value.slice.injEq, Value.pointer.injEq, Option.some.injEq, Addr.mk.injEq, lst_inj, true_and, and_true] at e
  obtain ⟨rfl, rfl, rfl⟩ := e
  exact h
def R33 (N : Nat) : Trans := fun args H Bd K => ∃ (ps vt va : Value), args = [ps, vt, va] ∧ Yld (cellsAt H 1 ps) fun cs => callW (Q33 N) [.agg cs.toArray, vt, va] H Bd K
@[go_sem ↓] theorem R33_eq (N : Nat) (ps vt va : Value) (H : AH) (Bd : Nat) (K : Value → AH → Nat → Prop) : R33 N [ps, vt, va] H Bd K = (Yld (cellsAt H 1 ps) fun cs => callW (Q33 N) (idS [.agg cs.toArray, vt, va]) H Bd K) := by
  refine propext ⟨fun h => ?_, fun h => ⟨_, _, _, rfl, h⟩⟩
  obtain ⟨ps', vt', va', e, h⟩ := h
  simp only [List.cons.injEq, and_true] at e
  obtain ⟨rfl, rfl, rfl⟩ := e
  exact h
set_option maxHeartbeats 2000000 in
theorem R33_step (N : Nat) (ih : OK 33 (R33 N)) : OK 33 (R33 (N + 1)) := by
  rintro args H Bd K ⟨ps, vt, va, rfl, cs, es, h⟩
  obtain ⟨s, t, a, e, hpre, hK⟩ := h
  simp only [List.cons.injEq, and_true] at e
  obtain ⟨Es, rfl, rfl⟩ := e
  obtain rfl := agg_inj Es
  refine fn_pure pok ((Env.base _).add 33 _ ih) [(7, [0,1,2,3,4,5,6,7,8,9,10,11,12], [⟨0, [], []⟩, ⟨1, [], []⟩, ⟨2, [], []⟩, ⟨3, [], []⟩, ⟨4, [], []⟩, ⟨5, [], []⟩, ⟨6, [], []⟩, ⟨7, [], []⟩, ⟨8, [], []⟩, ⟨9, [], []⟩, ⟨10, [], []⟩, ⟨11, [], []⟩, ⟨12, [], []⟩], .nil)] _ hK Tryd.func33 rfl (rs := [.tmp 6]) rfl Tryd.ntmps33 (by simp) Tryd.call33 (by kernel_rfl) (fun ha hb => .int _ _) (fun hb ha => ?_)
  have Ps := cellsAt_out es (NB.vpok (ha ps (by simp)))
  simp only [enc_GSignature] at Ps
  obtain ⟨⟨h1, h2, h3, h4, h5, h6⟩, hrec⟩ := hpre
  have hss : sm s := h1
  simp only [sm_GSignature] at h1
  have hlen := sm_len h1
  have hs := sig_ok h3
  have hlt2 := sm_len h2
  obtain ⟨a, rfl⟩ := Int.eq_ofNat_of_zero_le h5
  simp only [Int.toNat_natCast] at hrec
  by_cases hlt : a < t.length
  · have e1 : t[a]? = some t[a] := List.getElem?_eq_getElem hlt
    have hn := h4 _ (List.getElem_mem hlt)
    by_cases hx : t[a] < 0
    · have e5 : ep s t 1 a = a + 1 := by rw [ep_node 0 e1, arN_neg hx, ep_zero (by omega)]; omega
      simp (maxSteps := 2000000) (disch := first | assumption | (refine asm_intro ?_; assumption) | exact Nat.le_add_right _ _ | exact Nat.le_refl _ | omega | (simp (disch := first | exact Nat.le_add_right _ _ | omega) only [Le_upd hb, Le_rfl, free_T hb, free_upd]; done) | fail) only [go_sem, push_cast, and_pos, Le_updF, Le_upd hb, free_T hb, Ps.nil, Ps.fldL (m := 1) rfl, Ps.ldL (m := 1) rfl, Ps.ld0L (m := 1) rfl, Ps.cellsL (m := 1) rfl, Ps.cellsOL (m := 1) rfl, e1, hx, e5]
    · have e4 : t[a].toNat < s.symbols.length := by omega
      have e2 : s.symbols[t[a].toNat]? = some s.symbols[t[a].toNat] := List.getElem?_eq_getElem e4
      have ha := hs.nm _ (List.getElem_mem e4)
      have e5 : ep s t 1 a = ep s t (s.symbols[t[a].toNat].arity.toNat) (a + 1) := by rw [ep_node 0 e1, arN_sym (by omega) e2, Nat.zero_add]
      simp (maxSteps := 2000000) (disch := first | assumption | (refine asm_intro ?_; assumption) | exact Nat.le_add_right _ _ | exact Nat.le_refl _ | omega | (simp (disch := first | exact Nat.le_add_right _ _ | omega) only [Le_upd hb, Le_rfl, free_T hb, free_upd]; done) | fail) only [go_sem, push_cast, and_pos, Le_updF, Le_upd hb, free_T hb, Ps.nil, Ps.fldL (m := 1) rfl, Ps.ldL (m := 1) rfl, Ps.ld0L (m := 1) rfl, Ps.cellsL (m := 1) rfl, Ps.cellsOL (m := 1) rfl, e1, hx]
      refine tr_for (fun i => 0 ≤ ep s t i (a + 1)) (s.symbols[t[a].toNat].arity.toNat) (fun i => [(0, ps), (1, lst t), (2, .int .i64 a), (7, .int .i64 (ep s t i (a + 1))), (8, .int .i64 i)]) ((by rw [ep_zero (by omega)]; omega)) (by simp only [go_sem, push_cast, and_pos, Le_updF, ep_zero (show a + 1 ≤ t.length by omega)]) ?_
      intro i Bi hIi hii hBi
      refine vq_conv pok (E := ((Env.base _).add 33 _ ih)) (PL := [(7, [0,1,2,3,4,5,6,7,8,9,10,11,12], [⟨0, [], []⟩, ⟨1, [], []⟩, ⟨2, [], []⟩, ⟨3, [], []⟩, ⟨4, [], []⟩, ⟨5, [], []⟩, ⟨6, [], []⟩, ⟨7, [], []⟩, ⟨8, [], []⟩, ⟨9, [], []⟩, ⟨10, [], []⟩, ⟨11, [], []⟩, ⟨12, [], []⟩], .nil)]) (by kernel_rfl) ?_
      rcases Nat.lt_or_ge i (s.symbols[t[a].toNat].arity.toNat) with hlti | hgei
      · rcases ep_cases (s := s) (t := t) i (show a + 1 ≤ t.length by omega) with ⟨q1, _⟩ | ⟨m, q1, q2, q3, _⟩
        · omega
        have hst : ep s t (i + 1) (a + 1) = ep s t 1 (a + 1 + m) := by rw [ep_add i 1 (show a + 1 ≤ t.length by omega), q3, if_neg (by omega), Int.toNat_natCast]
        have hc : (i : Int) < s.symbols[t[a].toNat].arity := by omega
        have hcv : ((a : Int) + 1 + m).toNat = a + 1 + m := by omega
        simp (maxSteps := 2000000) (disch := first | assumption | (refine asm_intro ?_; assumption) | exact Nat.le_add_right _ _ | exact Nat.le_refl _ | omega | (simp (disch := first | exact Nat.le_add_right _ _ | omega) only [Le_upd hb, Le_rfl, free_T hb, free_upd]; done) | fail) only [go_sem, push_cast, and_pos, Le_updF, Le_upd hb, free_T hb, Ps.nil, Ps.fldL (m := 1) rfl, Ps.ldL (m := 1) rfl, Ps.ld0L (m := 1) rfl, Ps.cellsL (m := 1) rfl, Ps.cellsOL (m := 1) rfl, e1, e2, hx, hc, q3, hss, h2, h3, h4]
        rw [hcv, ← hst]
        refine ⟨fun h => ?_, fun h => ⟨by omega, rfl⟩⟩
        rw [e5, show s.symbols[t[a].toNat].arity.toNat = (i + 1) + (s.symbols[t[a].toNat].arity.toNat - (i + 1)) by omega, ep_add (i + 1) _ (show a + 1 ≤ t.length by omega), if_pos h]
      · have hc : ¬ (i : Int) < s.symbols[t[a].toNat].arity := by omega
        simp (maxSteps := 2000000) (disch := first | assumption | (refine asm_intro ?_; assumption) | exact Nat.le_add_right _ _ | exact Nat.le_refl _ | omega | (simp (disch := first | exact Nat.le_add_right _ _ | omega) only [Le_upd hb, Le_rfl, free_T hb, free_upd]; done) | fail) only [go_sem, push_cast, and_pos, Le_updF, Le_upd hb, free_T hb, Ps.nil, Ps.fldL (m := 1) rfl, Ps.ldL (m := 1) rfl, Ps.ld0L (m := 1) rfl, Ps.cellsL (m := 1) rfl, Ps.cellsOL (m := 1) rfl, e1, e2, hx, hc]
        refine vq_conv pok (E := ((Env.base _).add 33 _ ih)) (PL := [(7, [0,1,2,3,4,5,6,7,8,9,10,11,12], [⟨0, [], []⟩, ⟨1, [], []⟩, ⟨2, [], []⟩, ⟨3, [], []⟩, ⟨4, [], []⟩, ⟨5, [], []⟩, ⟨6, [], []⟩, ⟨7, [], []⟩, ⟨8, [], []⟩, ⟨9, [], []⟩, ⟨10, [], []⟩, ⟨11, [], []⟩, ⟨12, [], []⟩], .nil)]) (by kernel_rfl) ?_
        simp (maxSteps := 2000000) (disch := first | assumption | (refine asm_intro ?_; assumption) | exact Nat.le_add_right _ _ | exact Nat.le_refl _ | omega | (simp (disch := first | exact Nat.le_add_right _ _ | omega) only [Le_upd hb, Le_rfl, free_T hb, free_upd]; done) | fail) only [go_sem, push_cast, and_pos, Le_updF, Le_upd hb, free_T hb, Ps.nil, Ps.fldL (m := 1) rfl, Ps.ldL (m := 1) rfl, Ps.ld0L (m := 1) rfl, Ps.cellsL (m := 1) rfl, Ps.cellsOL (m := 1) rfl]
        rw [e5, show i = s.symbols[t[a].toNat].arity.toNat by omega]
  · have e5 : ep s t 1 a = -1 := ep_out 0 (by omega)
    simp (maxSteps := 2000000) (disch := first | assumption | (refine asm_intro ?_; assumption) | exact Nat.le_add_right _ _ | exact Nat.le_refl _ | omega | (simp (disch := first | exact Nat.le_add_right _ _ | omega) only [Le_upd hb, Le_rfl, free_T hb, free_upd]; done) | fail) only [go_sem, push_cast, and_pos, Le_updF, Le_upd hb, free_T hb, Ps.nil, Ps.fldL (m := 1) rfl, Ps.ldL (m := 1) rfl, Ps.ld0L (m := 1) rfl, Ps.cellsL (m := 1) rfl, Ps.cellsOL (m := 1) rfl, hlt, e5]
theorem R33_zero : OK 33 (R33 0) := by
  rintro args H Bd K ⟨ps, vt, va, rfl, cs, es, h⟩
  obtain ⟨s, t, a, e, hpre, hK⟩ := h
  exact absurd hpre.2 (Nat.not_lt_zero _)
theorem R33_ok : ∀ N, OK 33 (R33 N)
  | 0 => R33_zero
  | N + 1 => R33_step N (R33_ok N)
theorem W33_ok : OK 33 W33 := by
  rintro args H Bd K ⟨ps, vt, va, rfl, cs, es, h⟩
  obtain ⟨s, t, a, e, hpre, hK⟩ := h
  exact R33_ok ((t.length + 1 - a.toNat) + 1) _ _ _ _ ⟨ps, vt, va, rfl, cs, es, s, t, a, e, ⟨hpre, Nat.lt_succ_self _⟩, hK⟩
def V16 : Trans := fun args H Bd K => ∃ (s : GSignature) (t : List Int), args = [.agg (enc (s)).toArray, lst (t)] ∧ ((sm s ∧ sm t ∧ rg t ∧ sigF s = 0) ∧ K (.int .i64 (termG s t)) H Bd)
@[go_sem ↓] theorem V16_eq (s_symbols : List GSymbol) (t : List Int) (H : AH) (Bd : Nat) (K : Value → AH → Nat → Prop) : V16 [.agg #[lst (s_symbols)], lst (t)] H Bd K = ((sm (GSignature.mk s_symbols) ∧ sm t ∧ rg t ∧ sigF (GSignature.mk s_symbols) = 0) ∧ K (.int .i64 (termG (GSignature.mk s_symbols) t)) H Bd) := by
  refine propext ⟨fun h => ?_, fun h => ⟨_, _, rfl, h⟩⟩
  obtain ⟨s', t', e, h⟩ := h
  obtain ⟨ssymbols'⟩ := s'
  skip
  simp only [enc_GSignature, enc_int, enc_str, enc_list, enc_bool, enc_byte, List.cons.injEq, Value.agg.injEq, toArr_inj, Value.int.injEq, Value.bool.injEq, Value.string.injEq, Value.slice.injEq, Value.pointer.injEq, Option.some.injEq, Addr.mk.injEq, lst_inj, true_and, and_true] at e
  obtain ⟨rfl, rfl⟩ := e
  exact h
def W16 : Trans := fun args H Bd K => ∃ (ps vt : Value), args = [ps, vt] ∧ Yld (cellsAt H 1 ps) fun cs => callW V16 [.agg cs.toArray, vt] H Bd K
@[go_sem ↓] theorem W16_eq (ps vt : Value) (H : AH) (Bd : Nat) (K : Value → AH → Nat → Prop) : W16 [ps, vt] H Bd K = (Yld (cellsAt H 1 ps) fun cs => callW V16 (idS [.agg cs.toArray, vt]) H Bd K) := by
  refine propext ⟨fun h => ?_, fun h => ⟨_, _, rfl, h⟩⟩
  obtain ⟨ps', vt', e, h⟩ := h
  simp only [List.cons.injEq, and_true] at e
  obtain ⟨rfl, rfl⟩ := e
  exact h
set_option maxHeartbeats 2000000 in
theorem W16_ok : OK 16 W16 := by
  rintro args H Bd K ⟨ps, vt, rfl, cs, es, h⟩
  obtain ⟨s, t, e, hpre, hK⟩ := h
  simp only [List.cons.injEq, and_true] at e
  obtain ⟨Es, rfl⟩ := e
  obtain rfl := agg_inj Es
  refine fn_pure pok (((Env.base _).add 32 _ W32_ok).add 33 _ W33_ok) [(1, [], [], (.k 4 (.grp false 9 12 3 [10, 11, 12] 13 none (.k 3 .nil) .nil)))] _ hK Tryd.func16 rfl (rs := [.tmp 4]) rfl Tryd.ntmps16 (by simp) Tryd.call16 (by kernel_rfl) (fun ha hb => .int _ _) (fun hb ha => ?_)
  have Ps := cellsAt_out es (NB.vpok (ha ps (by simp)))
  simp only [enc_GSignature] at Ps
  obtain ⟨h1, h2, h3, h4⟩ := hpre
  have hss : sm s := h1
  have hlt2 := sm_len h2
  simp (maxSteps := 2000000) (disch := first | assumption | (refine asm_intro ?_; assumption) | exact Nat.le_add_right _ _ | exact Nat.le_refl _ | omega | (simp (disch := first | exact Nat.le_add_right _ _ | omega) only [Le_upd hb, Le_rfl, free_T hb, free_upd]; done) | fail) only [go_sem, push_cast, and_pos, Le_updF, Le_upd hb, free_T hb, Ps.nil, Ps.fldL (m := 1) rfl, Ps.ldL (m := 1) rfl, Ps.ld0L (m := 1) rfl, Ps.cellsL (m := 1) rfl, Ps.cellsOL (m := 1) rfl, h2]
  refine ⟨fun hq => by unfold termG; rw [if_pos (by omega)], fun hq1 hq2 => ?_⟩
  have hs : termG s t = if t.any (fun n => !isNode s n) = true then 3 else if ep s t 1 0 = t.length then 0 else 1 := by unfold termG; rw [if_neg (by omega)]
  rw [hs]
  refine tr_for (fun i => ∀ j, j < i → ∀ x, t[j]? = some x → isNode s x = true) (t.length) (fun i => [(0, ps), (1, lst t), (5, .int .i64 i)]) (by simp) (by simp only [go_sem, push_cast, and_pos, Le_updF]) ?_
  intro i Bi hIi hii hBi
  refine vq_conv pok (E := (((Env.base _).add 32 _ W32_ok).add 33 _ W33_ok)) (PL := [(1, [], [], (.k 4 (.grp false 9 12 3 [10, 11, 12] 13 none (.k 3 .nil) .nil)))]) (by kernel_rfl) ?_
  rcases Nat.lt_or_ge i (t.length) with hlti | hgei
  · have e1 : t[i]? = some t[i] := List.getElem?_eq_getElem hlti
    have h5 := h3 _ (List.getElem_mem hlti)
    simp (maxSteps := 2000000) (disch := first | assumption | (refine asm_intro ?_; assumption) | exact Nat.le_add_right _ _ | exact Nat.le_refl _ | omega | (simp (disch := first | exact Nat.le_add_right _ _ | omega) only [Le_upd hb, Le_rfl, free_T hb, free_upd]; done) | fail) only [go_sem, push_cast, and_pos, Le_updF, Le_upd hb, free_T hb, Ps.nil, Ps.fldL (m := 1) rfl, Ps.ldL (m := 1) rfl, Ps.ld0L (m := 1) rfl, Ps.cellsL (m := 1) rfl, Ps.cellsOL (m := 1) rfl, e1, hss, h5]
    refine ⟨h5, fun h j hj x hx => ?_, fun h => ?_⟩
    · by_cases e : j = i
      · subst e; rw [e1] at hx; cases hx; exact h
      · exact hIi j (by omega) x hx
    · rw [if_pos (any_hit hlti (by simpa using h))]
  · simp (maxSteps := 2000000) (disch := first | assumption | (refine asm_intro ?_; assumption) | exact Nat.le_add_right _ _ | exact Nat.le_refl _ | omega | (simp (disch := first | exact Nat.le_add_right _ _ | omega) only [Le_upd hb, Le_rfl, free_T hb, free_upd]; done) | fail) only [go_sem, push_cast, and_pos, Le_updF, Le_upd hb, free_T hb, Ps.nil, Ps.fldL (m := 1) rfl, Ps.ldL (m := 1) rfl, Ps.ld0L (m := 1) rfl, Ps.cellsL (m := 1) rfl, Ps.cellsOL (m := 1) rfl]
    refine vq_conv pok (E := (((Env.base _).add 32 _ W32_ok).add 33 _ W33_ok)) (PL := [(1, [], [], (.k 4 (.grp false 9 12 3 [10, 11, 12] 13 none (.k 3 .nil) .nil)))]) (by kernel_rfl) ?_
    have hany : t.any (fun n => !isNode s n) = false := any_false fun j hj x hx => by rw [hIi j (by omega) x hx]; rfl
    have hnd := nodes_any hany
    simp (maxSteps := 2000000) (disch := first | assumption | (refine asm_intro ?_; assumption) | exact Nat.le_add_right _ _ | exact Nat.le_refl _ | omega | (simp (disch := first | exact Nat.le_add_right _ _ | omega) only [Le_upd hb, Le_rfl, free_T hb, free_upd]; done) | fail) only [go_sem, push_cast, and_pos, Le_updF, Le_upd hb, free_T hb, Ps.nil, Ps.fldL (m := 1) rfl, Ps.ldL (m := 1) rfl, Ps.ld0L (m := 1) rfl, Ps.cellsL (m := 1) rfl, Ps.cellsOL (m := 1) rfl, hss, h2, h4, hnd, hany]
    refine ⟨fun h => ?_, fun h => ?_⟩
    · rw [if_pos h]
    · rw [if_neg h]
def V34 : Trans := fun args H Bd K => ∃ (s : GSignature) (t : List Int) (a : Int), args = [.agg (enc (s)).toArray, lst (t), .int .i64 (a)] ∧ ((sm s ∧ sm t ∧ sigF s = 0 ∧ nodes s t ∧ 0 ≤ a ∧ a < t.length ∧ t.length ≤ 24 ∧ 0 ≤ ep s t 1 a.toNat) ∧ K (.string (tx s t a.toNat)) H Bd)
@[go_sem ↓] theorem V34_eq (s_symbols : List GSymbol) (t : List Int) (a : Int) (H : AH) (Bd : Nat) (K : Value → AH → Nat → Prop) : V34 [.agg #[lst (s_symbols)], lst (t), .int .i64 (a)] H Bd K = ((sm (GSignature.mk s_symbols) ∧ sm t ∧ sigF (GSignature.mk s_symbols) = 0 ∧ nodes (GSignature.mk s_symbols) t ∧ 0 ≤ a ∧ a < t.length ∧ t.length ≤ 24 ∧ 0 ≤ ep (GSignature.mk s_symbols) t 1 a.toNat) ∧ K (.string (tx (GSignature.mk s_symbols) t a.toNat)) H Bd) := by
  refine propext ⟨fun h => ?_, fun h => ⟨_, _, _, rfl, h⟩⟩
  obtain ⟨s', t', a', e, h⟩ := h
  obtain ⟨ssymbols'⟩ := s'
  skip
  skip
  simp only [enc_GSignature, enc_int, enc_str, enc_list, enc_bool, enc_byte, List.cons.injEq, Value.agg.injEq, toArr_inj, Value.int.injEq, Value.bool.injEq, Value.string.injEq, Value.slice.injEq, Value.pointer.injEq, Option.some.injEq, Addr.mk.injEq, lst_inj, true_and, and_true] at e
  obtain ⟨rfl, rfl, rfl⟩ := e
  exact h
def W34 : Trans := fun args H Bd K => ∃ (ps vt va : Value), args = [ps, vt, va] ∧ Yld (cellsAt H 1 ps) fun cs => callW V34 [.agg cs.toArray, vt, va] H Bd K
@[go_sem ↓] theorem W34_eq (ps vt va : Value) (H : AH) (Bd : Nat) (K : Value → AH → Nat → Prop) : W34 [ps, vt, va] H Bd K = (Yld (cellsAt H 1 ps) fun cs => callW V34 (idS [.agg cs.toArray, vt, va]) H Bd K) := by
  refine propext ⟨fun h => ?_, fun h => ⟨_, _, _, rfl, h⟩⟩
  obtain ⟨ps', vt', va', e, h⟩ := h
  simp only [List.cons.injEq, and_true] at e
  obtain ⟨rfl, rfl, rfl⟩ := e
  exact h
def Q34 (N : Nat) : Trans := fun args H Bd K => ∃ (s : GSignature) (t : List Int) (a : Int), args = [.agg (enc (s)).toArray, lst (t), .int .i64 (a)] ∧ (((sm s ∧ sm t ∧ sigF s = 0 ∧ nodes s t ∧ 0 ≤ a ∧ a < t.length ∧ t.length ≤ 24 ∧ 0 ≤ ep s t 1 a.toNat) ∧ (t.length - a.toNat) < N) ∧ K (.string (tx s t a.toNat)) H Bd)
@[go_sem ↓] theorem Q34_eq (N : Nat) (s_symbols : List GSymbol) (t : List Int) (a : Int) (H : AH) (Bd : Nat) (K : Value → AH → Nat → Prop) : Q34 N [.agg #[lst (s_symbols)], lst (t), .int .i64 (a)] H Bd K = (((sm (GSignature.mk s_symbols) ∧ sm t ∧ sigF (GSignature.mk s_symbols) = 0 ∧ nodes (GSignature.mk s_symbols) t ∧ 0 ≤ a ∧ a < t.length ∧ t.length ≤ 24 ∧ 0 ≤ ep (GSignature.mk s_symbols) t 1 a.toNat) ∧ (t.length - a.toNat) < N) ∧ K (.string (tx (GSignature.mk s_symbols) t a.toNat)) H Bd) := by
  refine propext ⟨fun h => ?_, fun h => ⟨_, _, _, rfl, h⟩⟩
  obtain ⟨s', t', a', e, h⟩ := h
  obtain ⟨ssymbols'⟩ := s'
  skip
  skip
  simp only [enc_GSignature, enc_int, enc_str, enc_list, enc_bool, enc_byte, List.cons.injEq, Value.agg.injEq, toArr_inj, Value.int.injEq, Value.bool.injEq, Value.string.injEq, Value.slice.injEq, Value.pointer.injEq, Option.some.injEq, Addr.mk.injEq, lst_inj, true_and, and_true] at e
  obtain ⟨rfl, rfl, rfl⟩ := e
  exact h
def R34 (N : Nat) : Trans := fun args H Bd K => ∃ (ps vt va : Value), args = [ps, vt, va] ∧ Yld (cellsAt H 1 ps) fun cs => callW (Q34 N) [.agg cs.toArray, vt, va] H Bd K
@[go_sem ↓] theorem R34_eq (N : Nat) (ps vt va : Value) (H : AH) (Bd : Nat) (K : Value → AH → Nat → Prop) : R34 N [ps, vt, va] H Bd K = (Yld (cellsAt H 1 ps) fun cs => callW (Q34 N) (idS [.agg cs.toArray, vt, va]) H Bd K) := by
  refine propext ⟨fun h => ?_, fun h => ⟨_, _, _, rfl, h⟩⟩
  obtain ⟨ps', vt', va', e, h⟩ := h
  simp only [List.cons.injEq, and_true] at e
  obtain ⟨rfl, rfl, rfl⟩ := e
  exact h
set_option maxHeartbeats 2000000 in
theorem R34_step (N : Nat) (ih : OK 34 (R34 N)) : OK 34 (R34 (N + 1)) := by
  rintro args H Bd K ⟨ps, vt, va, rfl, cs, es, h⟩
  obtain ⟨s, t, a, e, hpre, hK⟩ := h
  simp only [List.cons.injEq, and_true] at e
  obtain ⟨Es, rfl, rfl⟩ := e
  obtain rfl := agg_inj Es
  refine fn_pure pok (((Env.base _).add 33 _ W33_ok).add 34 _ ih) [(3, [0,1,2,3,4,5,6,7,8,9,10,11], [⟨0, [], []⟩, ⟨1, [], []⟩, ⟨2, [], []⟩, ⟨3, [], []⟩, ⟨4, [], []⟩, ⟨5, [], []⟩, ⟨6, [], []⟩, ⟨7, [], []⟩, ⟨8, [], []⟩, ⟨9, [], []⟩, ⟨10, [], []⟩, ⟨11, [10], []⟩], .nil)] _ hK Tryd.func34 rfl (rs := [.tmp 6]) rfl Tryd.ntmps34 (by simp) Tryd.call34 (by kernel_rfl) (fun ha hb => .string _) (fun hb ha => ?_)
  have Ps := cellsAt_out es (NB.vpok (ha ps (by simp)))
  simp only [enc_GSignature] at Ps
  obtain ⟨⟨h1, h2, h3, h4, h5, h6, h7, h8⟩, hrec⟩ := hpre
  have hss : sm s := h1
  simp only [sm_GSignature] at h1
  have hlen := sm_len h1
  have hs := sig_ok h3
  obtain ⟨a, rfl⟩ := Int.eq_ofNat_of_zero_le h5
  simp only [Int.toNat_natCast] at hrec h8
  have hlt : a < t.length := by omega
  have e1 : t[a]? = some t[a] := List.getElem?_eq_getElem hlt
  have hn := h4 _ (List.getElem_mem hlt)
  have htx := tx_node (s := s) e1 h8
  by_cases hx : t[a] < 0
  · rw [if_pos hx] at htx
    simp (maxSteps := 2000000) (disch := first | assumption | (refine asm_intro ?_; assumption) | exact Nat.le_add_right _ _ | exact Nat.le_refl _ | omega | (simp (disch := first | exact Nat.le_add_right _ _ | omega) only [Le_upd hb, Le_rfl, free_T hb, free_upd]; done) | fail) only [go_sem, push_cast, and_pos, Le_updF, Le_upd hb, free_T hb, Ps.nil, Ps.fldL (m := 1) rfl, Ps.ldL (m := 1) rfl, Ps.ld0L (m := 1) rfl, Ps.cellsL (m := 1) rfl, Ps.cellsOL (m := 1) rfl, e1, hx, htx]
    try trivial
  · rw [if_neg hx] at htx
    have e4 : t[a].toNat < s.symbols.length := by omega
    have e2 : s.symbols[t[a].toNat]? = some s.symbols[t[a].toNat] := List.getElem?_eq_getElem e4
    have ha := hs.nm _ (List.getElem_mem e4)
    have har := arN_sym (s := s) (by omega) e2
    have hnm : nameAt s t[a] = s.symbols[t[a].toNat].name := by unfold nameAt; rw [e2]
    have hns := isNm_size ha.1
    rw [ep_node 0 e1, Nat.zero_add, har] at h8
    rw [har, hnm] at htx
    by_cases hz : s.symbols[t[a].toNat].arity = 0
    · rw [if_pos (by omega)] at htx
      simp (maxSteps := 2000000) (disch := first | assumption | (refine asm_intro ?_; assumption) | exact Nat.le_add_right _ _ | exact Nat.le_refl _ | omega | (simp (disch := first | exact Nat.le_add_right _ _ | omega) only [Le_upd hb, Le_rfl, free_T hb, free_upd]; done) | fail) only [go_sem, push_cast, and_pos, Le_updF, Le_upd hb, free_T hb, Ps.nil, Ps.fldL (m := 1) rfl, Ps.ldL (m := 1) rfl, Ps.ld0L (m := 1) rfl, Ps.cellsL (m := 1) rfl, Ps.cellsOL (m := 1) rfl, e1, e2, hx, hz, htx]
    · rw [if_neg (by omega)] at htx
      simp (maxSteps := 2000000) (disch := first | assumption | (refine asm_intro ?_; assumption) | exact Nat.le_add_right _ _ | exact Nat.le_refl _ | omega | (simp (disch := first | exact Nat.le_add_right _ _ | omega) only [Le_upd hb, Le_rfl, free_T hb, free_upd]; done) | fail) only [go_sem, push_cast, and_pos, Le_updF, Le_upd hb, free_T hb, Ps.nil, Ps.fldL (m := 1) rfl, Ps.ldL (m := 1) rfl, Ps.ld0L (m := 1) rfl, Ps.cellsL (m := 1) rfl, Ps.cellsOL (m := 1) rfl, e1, e2, hx, hz, htx]
      have hc1 : (#[40] : Array UInt8).size = 1 := rfl
      refine ⟨by omega, ?_⟩
      refine tr_for (fun i => True) (s.symbols[t[a].toNat].arity.toNat) (fun i => [(0, ps), (1, lst t), (7, .pointer (some ⟨Bd + 10, 0, none⟩)), (8, .string (s.symbols[t[a].toNat].name ++ ⟨#[40]⟩ ++ joinB (txs s t a i) ⟨#[44]⟩)), (9, .int .i64 (ep s t i (a + 1))), (10, .int .i64 i)]) (trivial) (by simp only [go_sem, push_cast, and_pos, Le_updF, txs_zero, joinB_nil, bempty, ep_zero (show a + 1 ≤ t.length by omega)]) ?_
      intro i Bi hIi hii hBi
      refine vq_conv pok (E := (((Env.base _).add 33 _ W33_ok).add 34 _ ih)) (PL := [(3, [0,1,2,3,4,5,6,7,8,9,10,11], [⟨0, [], []⟩, ⟨1, [], []⟩, ⟨2, [], []⟩, ⟨3, [], []⟩, ⟨4, [], []⟩, ⟨5, [], []⟩, ⟨6, [], []⟩, ⟨7, [], []⟩, ⟨8, [], []⟩, ⟨9, [], []⟩, ⟨10, [], []⟩, ⟨11, [10], []⟩], .nil)]) (by kernel_rfl) ?_
      rcases Nat.lt_or_ge i (s.symbols[t[a].toNat].arity.toNat) with hlti | hgei
      · rcases ep_cases (s := s) (t := t) i (show a + 1 ≤ t.length by omega) with ⟨q1, _⟩ | ⟨m, q1, q2, q3, _⟩
        · rw [show s.symbols[t[a].toNat].arity.toNat = i + (s.symbols[t[a].toNat].arity.toNat - i) by omega, ep_add i _ (by omega), q1, if_pos (by omega)] at h8
          omega
        have hst : ep s t (i + 1) (a + 1) = ep s t 1 (a + 1 + m) := by rw [ep_add i 1 (show a + 1 ≤ t.length by omega), q3, if_neg (by omega), Int.toNat_natCast]
        have hnn : 0 ≤ ep s t 1 (a + 1 + m) := by
          rw [← hst]
          rw [show s.symbols[t[a].toNat].arity.toNat = (i + 1) + (s.symbols[t[a].toNat].arity.toNat - (i + 1)) by omega, ep_add (i + 1) _ (by omega)] at h8
          split at h8 <;> omega
        have hlt3 : a + 1 + m < t.length := by
          rcases Nat.lt_or_ge (a + 1 + m) t.length with h | h
          · exact h
          · rw [ep_out 0 h] at hnn; omega
        have hsz := txs_size hs h7 a i
        have htz := tx_size hs h7 (a + 1 + m)
        have hj := txs_join s t a i
        rw [q3, Int.toNat_natCast] at hj
        have hc : (i : Int) < s.symbols[t[a].toNat].arity := by omega
        have hcv : ((a : Int) + 1 + m).toNat = a + 1 + m := by omega
        have hc2 : (#[44] : Array UInt8).size = 1 := rfl
        have hi2 : i ≤ 1 := by omega
        simp (maxSteps := 2000000) (disch := first | assumption | (refine asm_intro ?_; assumption) | exact Nat.le_add_right _ _ | exact Nat.le_refl _ | omega | (simp (disch := first | exact Nat.le_add_right _ _ | omega) only [Le_upd hb, Le_rfl, free_T hb, free_upd]; done) | fail) only [go_sem, push_cast, and_pos, Le_updF, Le_upd hb, free_T hb, Ps.nil, Ps.fldL (m := 1) rfl, Ps.ldL (m := 1) rfl, Ps.ld0L (m := 1) rfl, Ps.cellsL (m := 1) rfl, Ps.cellsOL (m := 1) rfl, e1, e2, hx, hc, q3, hss, h2, h3, h4, hcv, hnn]
        refine ⟨fun h => ?_, fun h => ?_⟩
        · rw [hj, if_neg (by omega)]; simp only [bassoc]
        · obtain rfl : i = 0 := by omega
          rw [hj, if_pos rfl]
          simp only [txs_zero, joinB_nil, bempty, ebempty, bassoc]
      · have hc : ¬ (i : Int) < s.symbols[t[a].toNat].arity := by omega
        have hi3 : i = s.symbols[t[a].toNat].arity.toNat := by omega
        have hsz := txs_size hs h7 a i
        have hc3 : (#[41] : Array UInt8).size = 1 := rfl
        simp (maxSteps := 2000000) (disch := first | assumption | (refine asm_intro ?_; assumption) | exact Nat.le_add_right _ _ | exact Nat.le_refl _ | omega | (simp (disch := first | exact Nat.le_add_right _ _ | omega) only [Le_upd hb, Le_rfl, free_T hb, free_upd]; done) | fail) only [go_sem, push_cast, and_pos, Le_updF, Le_upd hb, free_T hb, Ps.nil, Ps.fldL (m := 1) rfl, Ps.ldL (m := 1) rfl, Ps.ld0L (m := 1) rfl, Ps.cellsL (m := 1) rfl, Ps.cellsOL (m := 1) rfl, hc]
        refine vq_conv pok (E := (((Env.base _).add 33 _ W33_ok).add 34 _ ih)) (PL := [(3, [0,1,2,3,4,5,6,7,8,9,10,11], [⟨0, [], []⟩, ⟨1, [], []⟩, ⟨2, [], []⟩, ⟨3, [], []⟩, ⟨4, [], []⟩, ⟨5, [], []⟩, ⟨6, [], []⟩, ⟨7, [], []⟩, ⟨8, [], []⟩, ⟨9, [], []⟩, ⟨10, [], []⟩, ⟨11, [10], []⟩], .nil)]) (by kernel_rfl) ?_
        simp (maxSteps := 2000000) (disch := first | assumption | (refine asm_intro ?_; assumption) | exact Nat.le_add_right _ _ | exact Nat.le_refl _ | omega | (simp (disch := first | exact Nat.le_add_right _ _ | omega) only [Le_upd hb, Le_rfl, free_T hb, free_upd]; done) | fail) only [go_sem, push_cast, and_pos, Le_updF, Le_upd hb, free_T hb, Ps.nil, Ps.fldL (m := 1) rfl, Ps.ldL (m := 1) rfl, Ps.ld0L (m := 1) rfl, Ps.cellsL (m := 1) rfl, Ps.cellsOL (m := 1) rfl]
        rw [hi3]
theorem R34_zero : OK 34 (R34 0) := by
  rintro args H Bd K ⟨ps, vt, va, rfl, cs, es, h⟩
  obtain ⟨s, t, a, e, hpre, hK⟩ := h
  exact absurd hpre.2 (Nat.not_lt_zero _)
theorem R34_ok : ∀ N, OK 34 (R34 N)
  | 0 => R34_zero
  | N + 1 => R34_step N (R34_ok N)
theorem W34_ok : OK 34 W34 := by
  rintro args H Bd K ⟨ps, vt, va, rfl, cs, es, h⟩
  obtain ⟨s, t, a, e, hpre, hK⟩ := h
  exact R34_ok ((t.length - a.toNat) + 1) _ _ _ _ ⟨ps, vt, va, rfl, cs, es, s, t, a, e, ⟨hpre, Nat.lt_succ_self _⟩, hK⟩
def W35 : Trans := fun args H Bd K => ∃ (n : Int), args = [.int .i64 (n)] ∧ ((0 ≤ n ∧ R64 n) ∧ K (.string (itoaB n)) H Bd)
@[go_sem ↓] theorem W35_eq (n : Int) (H : AH) (Bd : Nat) (K : Value → AH → Nat → Prop) : W35 [.int .i64 (n)] H Bd K = ((0 ≤ n ∧ R64 n) ∧ K (.string (itoaB n)) H Bd) := by
  refine propext ⟨fun h => ?_, fun h => ⟨_, rfl, h⟩⟩
  obtain ⟨n', e, h⟩ := h
  skip
  simp only [List.cons.injEq, Value.agg.injEq, toArr_inj, Value.int.injEq, Value.bool.injEq, Value.string.injEq, Value.slice.injEq, Value.pointer.injEq, Option.some.injEq, Addr.mk.injEq, lst_inj, true_and, and_true] at e
  obtain rfl := e
  exact h
def R35 (N : Nat) : Trans := fun args H Bd K => ∃ (n : Int), args = [.int .i64 (n)] ∧ (((0 ≤ n ∧ R64 n) ∧ n.toNat < N) ∧ K (.string (itoaB n)) H Bd)
@[go_sem ↓] theorem R35_eq (N : Nat) (n : Int) (H : AH) (Bd : Nat) (K : Value → AH → Nat → Prop) : R35 N [.int .i64 (n)] H Bd K = (((0 ≤ n ∧ R64 n) ∧ n.toNat < N) ∧ K (.string (itoaB n)) H Bd) := by
  refine propext ⟨fun h => ?_, fun h => ⟨_, rfl, h⟩⟩
  obtain ⟨n', e, h⟩ := h
  skip
  simp only [List.cons.injEq, Value.agg.injEq, toArr_inj, Value.int.injEq, Value.bool.injEq, Value.string.injEq, Value.slice.injEq, Value.pointer.injEq, Option.some.injEq, Addr.mk.injEq, lst_inj, true_and, and_true] at e
  obtain rfl := e
  exact h
theorem R35_step (N : Nat) (ih : OK 35 (R35 N)) : OK 35 (R35 (N + 1)) := by
  rintro args H Bd K ⟨n, rfl, hpre, hK⟩
  refine fn_pure pok ((Env.base _).add 35 _ ih) [(3, [0,1,3,4,5,6,7,8,2,9,10], [⟨0, [], []⟩, ⟨1, [], []⟩, ⟨3, [], []⟩, ⟨4, [], []⟩, ⟨5, [], []⟩, ⟨6, [], []⟩, ⟨7, [], []⟩, ⟨8, [], []⟩, ⟨2, [], [8,6]⟩, ⟨9, [], []⟩, ⟨10, [], []⟩], .nil)] _ hK Tryd.func35 rfl (rs := [.tmp 2]) rfl Tryd.ntmps35 (by simp) Tryd.call35 (by kernel_rfl) (fun ha hb => .string _) (fun hb ha => ?_)
  obtain ⟨⟨h1, h2⟩, hrec⟩ := hpre
  by_cases h : n < 10
  · have e := itoaB_small h1 h
    simp (maxSteps := 2000000) (disch := first | assumption | (refine asm_intro ?_; assumption) | exact Nat.le_add_right _ _ | exact Nat.le_refl _ | omega | (simp (disch := first | exact Nat.le_add_right _ _ | omega) only [Le_upd hb, Le_rfl, free_T hb, free_upd]; done) | fail) only [go_sem, push_cast, and_pos, Le_updF, Le_upd hb, free_T hb, h, e]
  · have e := itoaB_big (show 10 ≤ n by omega)
    have h3 : n.tdiv 10 = n / 10 := Int.tdiv_eq_ediv_of_nonneg (by omega)
    have h4 : n.tmod 10 = n % 10 := Int.tmod_eq_emod_of_nonneg (by omega)
    have h5 : 0 ≤ n ∧ n ≤ 9223372036854775807 := ⟨h1, h2.2⟩
    have h6 := itoaB_size (n := n.tdiv 10) (by omega) (by omega)
    simp (maxSteps := 2000000) (disch := first | assumption | (refine asm_intro ?_; assumption) | exact Nat.le_add_right _ _ | exact Nat.le_refl _ | omega | (simp (disch := first | exact Nat.le_add_right _ _ | omega) only [Le_upd hb, Le_rfl, free_T hb, free_upd]; done) | fail) only [go_sem, push_cast, and_pos, Le_updF, Le_upd hb, free_T hb, h]
    exact ⟨⟨⟨by omega, by omega⟩, by omega⟩, hb.fresh _ (by omega), e.symm⟩
theorem R35_zero : OK 35 (R35 0) := by
  rintro args H Bd K ⟨n, rfl, hpre, hK⟩
  exact absurd hpre.2 (Nat.not_lt_zero _)
theorem R35_ok : ∀ N, OK 35 (R35 N)
  | 0 => R35_zero
  | N + 1 => R35_step N (R35_ok N)
theorem W35_ok : OK 35 W35 := by
  rintro args H Bd K ⟨n, rfl, hpre, hK⟩
  exact R35_ok (n.toNat + 1) _ _ _ _ ⟨n, rfl, ⟨hpre, Nat.lt_succ_self _⟩, hK⟩
def V18 : Trans := fun args H Bd K => ∃ (s : GSignature) (l : List GRecord), args = [.agg (enc (s)).toArray, lst (l)] ∧ ((sm s ∧ sm l ∧ sigF s = 0 ∧ recG s l = 0 ∧ l.length ≤ 248) ∧ K (.string (joinB (l.map (recT s)) ⟨#[59, 32]⟩)) H Bd)
@[go_sem ↓] theorem V18_eq (s_symbols : List GSymbol) (l : List GRecord) (H : AH) (Bd : Nat) (K : Value → AH → Nat → Prop) : V18 [.agg #[lst (s_symbols)], lst (l)] H Bd K = ((sm (GSignature.mk s_symbols) ∧ sm l ∧ sigF (GSignature.mk s_symbols) = 0 ∧ recG (GSignature.mk s_symbols) l = 0 ∧ l.length ≤ 248) ∧ K (.string (joinB (l.map (recT (GSignature.mk s_symbols))) ⟨#[59, 32]⟩)) H Bd) := by
  refine propext ⟨fun h => ?_, fun h => ⟨_, _, rfl, h⟩⟩
  obtain ⟨s', l', e, h⟩ := h
  obtain ⟨ssymbols'⟩ := s'
  skip
  simp only [enc_GSignature, enc_int, enc_str, enc_list, enc_bool, enc_byte, List.cons.injEq, Value.agg.injEq, toArr_inj, Value.int.injEq, Value.bool.injEq, Value.string.injEq, Value.slice.injEq, Value.pointer.injEq, Option.some.injEq, Addr.mk.injEq, lst_inj, true_and, and_true] at e
  obtain ⟨rfl, rfl⟩ := e
  exact h
def W18 : Trans := fun args H Bd K => ∃ (ps vl : Value), args = [ps, vl] ∧ Yld (cellsAt H 1 ps) fun cs => callW V18 [.agg cs.toArray, vl] H Bd K
@[go_sem ↓] theorem W18_eq (ps vl : Value) (H : AH) (Bd : Nat) (K : Value → AH → Nat → Prop) : W18 [ps, vl] H Bd K = (Yld (cellsAt H 1 ps) fun cs => callW V18 (idS [.agg cs.toArray, vl]) H Bd K) := by
  refine propext ⟨fun h => ?_, fun h => ⟨_, _, rfl, h⟩⟩
  obtain ⟨ps', vl', e, h⟩ := h
  simp only [List.cons.injEq, and_true] at e
  obtain ⟨rfl, rfl⟩ := e
  exact h
set_option maxHeartbeats 2000000 in
theorem W18_ok : OK 18 W18 := by
  rintro args H Bd K ⟨ps, vl, rfl, cs, es, h⟩
  obtain ⟨s, l, e, hpre, hK⟩ := h
  simp only [List.cons.injEq, and_true] at e
  obtain ⟨Es, rfl⟩ := e
  obtain rfl := agg_inj Es
  refine fn_pure pok (((Env.base _).add 34 _ W34_ok).add 35 _ W35_ok) [(7, [0,1,2,3,4,5,6,10,11,12,13,14,7,8,9,15,16,17], [⟨0, [], []⟩, ⟨1, [], []⟩, ⟨2, [], []⟩, ⟨3, [], []⟩, ⟨4, [], []⟩, ⟨5, [], []⟩, ⟨6, [], []⟩, ⟨10, [], []⟩, ⟨11, [], []⟩, ⟨12, [], []⟩, ⟨13, [], []⟩, ⟨14, [], []⟩, ⟨7, [], [14]⟩, ⟨8, [], []⟩, ⟨9, [], []⟩, ⟨15, [], []⟩, ⟨16, [], []⟩, ⟨17, [], []⟩], .nil)] _ hK Tryd.func18 rfl (rs := [.tmp 4]) rfl Tryd.ntmps18 (by simp) Tryd.call18 (by kernel_rfl) (fun ha hb => .string _) (fun hb ha => ?_)
  have Ps := cellsAt_out es (NB.vpok (ha ps (by simp)))
  simp only [enc_GSignature] at Ps
  obtain ⟨h1, h2, h3, h4, h5⟩ := hpre
  have hs := sig_ok h3
  have hok := recG_zero h4
  simp (maxSteps := 2000000) (disch := first | assumption | (refine asm_intro ?_; assumption) | exact Nat.le_add_right _ _ | exact Nat.le_refl _ | omega | (simp (disch := first | exact Nat.le_add_right _ _ | omega) only [Le_upd hb, Le_rfl, free_T hb, free_upd]; done) | fail) only [go_sem, push_cast, and_pos, Le_updF, Le_upd hb, free_T hb, Ps.nil, Ps.fldL (m := 1) rfl, Ps.ldL (m := 1) rfl, Ps.ld0L (m := 1) rfl, Ps.cellsL (m := 1) rfl, Ps.cellsOL (m := 1) rfl]
  refine tr_for (fun i => True) (l.length) (fun i => [(0, ps), (1, lst l), (5, .string (joinB ((l.take i).map (recT s)) ⟨#[59, 32]⟩)), (6, .int .i64 i)]) (trivial) (by simp only [go_sem, push_cast, and_pos, Le_updF, List.take_zero, List.map_nil, joinB_nil]) ?_
  intro i Bi hIi hii hBi
  refine vq_conv pok (E := (((Env.base _).add 34 _ W34_ok).add 35 _ W35_ok)) (PL := [(7, [0,1,2,3,4,5,6,10,11,12,13,14,7,8,9,15,16,17], [⟨0, [], []⟩, ⟨1, [], []⟩, ⟨2, [], []⟩, ⟨3, [], []⟩, ⟨4, [], []⟩, ⟨5, [], []⟩, ⟨6, [], []⟩, ⟨10, [], []⟩, ⟨11, [], []⟩, ⟨12, [], []⟩, ⟨13, [], []⟩, ⟨14, [], []⟩, ⟨7, [], [14]⟩, ⟨8, [], []⟩, ⟨9, [], []⟩, ⟨15, [], []⟩, ⟨16, [], []⟩, ⟨17, [], []⟩], .nil)]) (by kernel_rfl) ?_
  rcases Nat.lt_or_ge i (l.length) with hlti | hgei
  · have e1 : l[i]? = some l[i] := List.getElem?_eq_getElem hlti
    have hr := hok _ (List.getElem_mem hlti)
    have ht := term_ok hr.1
    have hp := term_place ht
    have hst := sm_mem h2 (List.getElem_mem hlti)
    simp only [sm_GRecord] at hst
    have hst1 := hst.1
    have htn := ht.nodes
    have htl := ht.len
    have hsz := recs_size hs (l := l.take i) (fun x hx => hok x (List.mem_of_mem_take hx))
    rw [List.length_take] at hsz
    have h6 := tx_size hs htl.2 0
    have h7 := itoaB_size hr.2.1 (by have := hr.2.2; omega)
    have hj : joinB ((l.take (i + 1)).map (recT s)) ⟨#[59, 32]⟩ = (if (l.take i).map (recT s) = [] then ⟨#[]⟩ else joinB ((l.take i).map (recT s)) ⟨#[59, 32]⟩ ++ ⟨#[59, 32]⟩) ++ recT s l[i] := by
      rw [List.take_succ_eq_append_getElem hlti, List.map_append, List.map_cons, List.map_nil, joinB_snoc]
    have hc1 : (#[59, 32] : Array UInt8).size = 2 := rfl
    have hc2 : (#[32] : Array UInt8).size = 1 := rfl
    have hv := hr.2
    simp (maxSteps := 2000000) (disch := first | assumption | (refine asm_intro ?_; assumption) | exact Nat.le_add_right _ _ | exact Nat.le_refl _ | omega | (simp (disch := first | exact Nat.le_add_right _ _ | omega) only [Le_upd hb, Le_rfl, free_T hb, free_upd]; done) | fail) only [go_sem, push_cast, and_pos, Le_updF, Le_upd hb, free_T hb, Ps.nil, Ps.fldL (m := 1) rfl, Ps.ldL (m := 1) rfl, Ps.ld0L (m := 1) rfl, Ps.cellsL (m := 1) rfl, Ps.cellsOL (m := 1) rfl, e1, h1, h3, hst1, htn, hp]
    have hr64 : R64 l[i].value := ⟨by omega, by omega⟩
    have hi0 : (l.take i).map (recT s) = [] ↔ i = 0 := by
      rw [List.map_eq_nil_iff, List.take_eq_nil_iff]
      constructor
      · rintro (h | h)
        · exact h
        · subst h; simp at hlti
      · exact .inl
    refine ⟨fun h => ⟨hr64, ?_⟩, fun h => ⟨hr64, ?_⟩⟩
    · rw [hj, if_neg (by rw [hi0]; omega)]; simp only [recT, bassoc]
    · obtain rfl : i = 0 := by omega
      rw [hj, if_pos (by simp)]; simp only [List.take_zero, List.map_nil, joinB_nil, ebempty, recT, bassoc]
  · simp (maxSteps := 2000000) (disch := first | assumption | (refine asm_intro ?_; assumption) | exact Nat.le_add_right _ _ | exact Nat.le_refl _ | omega | (simp (disch := first | exact Nat.le_add_right _ _ | omega) only [Le_upd hb, Le_rfl, free_T hb, free_upd]; done) | fail) only [go_sem, push_cast, and_pos, Le_updF, Le_upd hb, free_T hb, Ps.nil, Ps.fldL (m := 1) rfl, Ps.ldL (m := 1) rfl, Ps.ld0L (m := 1) rfl, Ps.cellsL (m := 1) rfl, Ps.cellsOL (m := 1) rfl]
    refine vq_conv pok (E := (((Env.base _).add 34 _ W34_ok).add 35 _ W35_ok)) (PL := [(7, [0,1,2,3,4,5,6,10,11,12,13,14,7,8,9,15,16,17], [⟨0, [], []⟩, ⟨1, [], []⟩, ⟨2, [], []⟩, ⟨3, [], []⟩, ⟨4, [], []⟩, ⟨5, [], []⟩, ⟨6, [], []⟩, ⟨10, [], []⟩, ⟨11, [], []⟩, ⟨12, [], []⟩, ⟨13, [], []⟩, ⟨14, [], []⟩, ⟨7, [], [14]⟩, ⟨8, [], []⟩, ⟨9, [], []⟩, ⟨15, [], []⟩, ⟨16, [], []⟩, ⟨17, [], []⟩], .nil)]) (by kernel_rfl) ?_
    simp (maxSteps := 2000000) (disch := first | assumption | (refine asm_intro ?_; assumption) | exact Nat.le_add_right _ _ | exact Nat.le_refl _ | omega | (simp (disch := first | exact Nat.le_add_right _ _ | omega) only [Le_upd hb, Le_rfl, free_T hb, free_upd]; done) | fail) only [go_sem, push_cast, and_pos, Le_updF, Le_upd hb, free_T hb, Ps.nil, Ps.fldL (m := 1) rfl, Ps.ldL (m := 1) rfl, Ps.ld0L (m := 1) rfl, Ps.cellsL (m := 1) rfl, Ps.cellsOL (m := 1) rfl]
    rw [List.take_of_length_le hgei]
def W6 : Trans := fun args H Bd K => ∃ (s : GSignature) (l : List GRecord), args = [.agg (enc (s)).toArray, lst (l)] ∧ ((sm s ∧ sm l ∧ rg l) ∧ K (.agg (enc (recsR s l)).toArray) H Bd)
@[go_sem ↓] theorem W6_eq (s_symbols : List GSymbol) (l : List GRecord) (H : AH) (Bd : Nat) (K : Value → AH → Nat → Prop) : W6 [.agg #[lst (s_symbols)], lst (l)] H Bd K = ((sm (GSignature.mk s_symbols) ∧ sm l ∧ rg l) ∧ K (.agg (enc (recsR (GSignature.mk s_symbols) l)).toArray) H Bd) := by
  refine propext ⟨fun h => ?_, fun h => ⟨_, _, rfl, h⟩⟩
  obtain ⟨s', l', e, h⟩ := h
  obtain ⟨ssymbols'⟩ := s'
  skip
  simp only [enc_GSignature, List.cons.injEq, Value.agg.injEq, toArr_inj, Value.int.injEq, Value.bool.injEq, Value.string.injEq, Value.slice.injEq, Value.pointer.injEq, Option.some.injEq, Addr.mk.injEq, lst_inj, true_and, and_true] at e
  obtain ⟨rfl, rfl⟩ := e
  exact h
set_option maxHeartbeats 2000000 in
theorem W6_ok : OK 6 W6 := by
  rintro args H Bd K ⟨s, l, rfl, hpre, hK⟩
  refine fn_pure pok (((((Env.base _).add 15 _ W15_ok).add 16 _ W16_ok).add 17 _ W17_ok).add 18 _ W18_ok) [] _ hK Tryd.func6 rfl (rs := [.cell 4 29]) rfl Tryd.ntmps6 (by simp) Tryd.call6 (by kernel_rfl) (fun ha hb => agg_nb _ _) (fun hb ha => ?_)
  obtain ⟨h1, h2, h3⟩ := hpre
  have hss := h1
  simp only [sm_GSignature] at h1
  have hlen := sm_len h1
  have hlen2 := sm_len h2
  simp (maxSteps := 2000000) (disch := first | assumption | (refine asm_intro ?_; assumption) | exact Nat.le_add_right _ _ | exact Nat.le_refl _ | omega | (simp (disch := first | exact Nat.le_add_right _ _ | omega) only [Le_upd hb, Le_rfl, free_T hb, free_upd]; done) | fail) only [go_sem, push_cast, and_pos, Le_updF, Le_upd hb, free_T hb, hss]
  refine ⟨fun g1 => ⟨fun g2 => ?_, fun g2 => ?_⟩, fun g1 => ?_⟩
  · unfold recsR; rw [if_neg (by simp [g1]), if_pos (by omega)]; exact ⟨rfl, rfl⟩
  · have hR : recsR s l = if recG s l ≠ 0 then ⟨recG s l, ⟨#[]⟩⟩ else ⟨0, joinB (l.map (recT s)) ⟨#[59, 32]⟩⟩ := by unfold recsR; rw [if_neg (by simp [g1]), if_neg (by omega)]
    rw [hR]
    refine tr_for (fun i => ∀ j, j < i → ∀ x, l[j]? = some x → okR s x) (l.length) (fun i => [(1, lst l), (2, .pointer (some ⟨Bd, 0, none⟩)), (4, .pointer (some ⟨Bd + 1, 0, none⟩)), (6, .int .i64 i)]) (fun j hj => absurd hj (Nat.not_lt_zero _)) (by simp only [go_sem, push_cast, and_pos, Le_updF]) ?_
    intro i Bi hIi hii hBi
    refine vq_conv pok (E := (((((Env.base _).add 15 _ W15_ok).add 16 _ W16_ok).add 17 _ W17_ok).add 18 _ W18_ok)) (PL := []) (by kernel_rfl) ?_
    rcases Nat.lt_or_ge i (l.length) with hlti | hgei
    · have e1 : l[i]? = some l[i] := List.getElem?_eq_getElem hlti
      have hst := sm_mem h2 (List.getElem_mem hlti)
      simp only [sm_GRecord] at hst
      have hst1 := hst.1
      have hrg := h3 _ (List.getElem_mem hlti)
      have hrg1 : rg l[i].term := hrg.1
      have hrg2 : R64 l[i].value := hrg.2
      simp (maxSteps := 2000000) (disch := first | assumption | (refine asm_intro ?_; assumption) | exact Nat.le_add_right _ _ | exact Nat.le_refl _ | omega | (simp (disch := first | exact Nat.le_add_right _ _ | omega) only [Le_upd hb, Le_rfl, free_T hb, free_upd]; done) | fail) only [go_sem, push_cast, and_pos, Le_updF, Le_upd hb, free_T hb, e1, hss, hst1, hrg1, g1]
      refine ⟨fun a1 => ⟨fun a2 => ?_, fun a2 a3 j hj x hx => ?_⟩, fun a1 => ?_⟩
      · have hh := recG_hit e1 hIi (fun ok => a2 ok.2)
        rw [if_neg (by simp [a1])] at hh
        rw [hh, if_pos (by decide)]; exact ⟨rfl, rfl⟩
      · by_cases e : j = i
        · subst e; rw [e1] at hx; cases hx; exact ⟨a1, a2, a3⟩
        · exact hIi j (by omega) x hx
      · have hh := recG_hit e1 hIi (fun ok => a1 ok.1)
        rw [if_pos a1] at hh
        rw [hh, if_pos a1]; exact ⟨rfl, rfl⟩
    · have hall : ∀ x ∈ l, okR s x := fun x hx => by
        obtain ⟨j, hj, rfl⟩ := List.getElem_of_mem hx
        exact hIi j (by omega) _ (List.getElem?_eq_getElem hj)
      have hz := recG_all hall
      have g3 : l.length ≤ 248 := by omega
      simp (maxSteps := 2000000) (disch := first | assumption | (refine asm_intro ?_; assumption) | exact Nat.le_add_right _ _ | exact Nat.le_refl _ | omega | (simp (disch := first | exact Nat.le_add_right _ _ | omega) only [Le_upd hb, Le_rfl, free_T hb, free_upd]; done) | fail) only [go_sem, push_cast, and_pos, Le_updF, Le_upd hb, free_T hb]
      refine vq_conv pok (E := (((((Env.base _).add 15 _ W15_ok).add 16 _ W16_ok).add 17 _ W17_ok).add 18 _ W18_ok)) (PL := []) (by kernel_rfl) ?_
      simp (maxSteps := 2000000) (disch := first | assumption | (refine asm_intro ?_; assumption) | exact Nat.le_add_right _ _ | exact Nat.le_refl _ | omega | (simp (disch := first | exact Nat.le_add_right _ _ | omega) only [Le_upd hb, Le_rfl, free_T hb, free_upd]; done) | fail) only [go_sem, push_cast, and_pos, Le_updF, Le_upd hb, free_T hb, hss, h2, g1, hz, g3]
  · unfold recsR; rw [if_pos g1]; exact ⟨rfl, rfl⟩
def W38 : Trans := fun args H Bd K => ∃ (s : ByteArray), args = [.string (s)] ∧ ((s.size ≤ 281474976710656) ∧ K (.bool (isNm s)) H Bd)
@[go_sem ↓] theorem W38_eq (s : ByteArray) (H : AH) (Bd : Nat) (K : Value → AH → Nat → Prop) : W38 [.string (s)] H Bd K = ((s.size ≤ 281474976710656) ∧ K (.bool (isNm s)) H Bd) := by
  refine propext ⟨fun h => ?_, fun h => ⟨_, rfl, h⟩⟩
  obtain ⟨s', e, h⟩ := h
  skip
  simp only [List.cons.injEq, Value.agg.injEq, toArr_inj, Value.int.injEq, Value.bool.injEq, Value.string.injEq, Value.slice.injEq, Value.pointer.injEq, Option.some.injEq, Addr.mk.injEq, lst_inj, true_and, and_true] at e
  obtain rfl := e
  exact h
theorem W38_ok : OK 38 W38 := by
  rintro args H Bd K ⟨s, rfl, hpre, hK⟩
  refine fn_pure pok ((Env.base _).add 54 _ W54_ok) [(1, [], [], (.k 4 (.grp true 6 9 3 [7, 8, 9] 10 none (.k 3 .nil) (.k 1 (.grp true 11 14 3 [12, 13, 14] 15 none (.k 3 .nil) (.k 1 .nil))))))] _ hK Tryd.func38 rfl (rs := [.tmp 2]) rfl Tryd.ntmps38 (by simp) Tryd.call38 (by kernel_rfl) (fun ha hb => .bool _) (fun hb ha => ?_)
  simp (maxSteps := 2000000) (disch := first | assumption | (refine asm_intro ?_; assumption) | exact Nat.le_add_right _ _ | exact Nat.le_refl _ | omega | (simp (disch := first | exact Nat.le_add_right _ _ | omega) only [Le_upd hb, Le_rfl, free_T hb, free_upd]; done) | fail) only [go_sem, push_cast, and_pos, Le_updF, Le_upd hb, free_T hb, hpre]
  exact ⟨fun _ _ => ⟨by decide, az_lt⟩, isNm_trim s⟩
def W23 : Trans := fun args H Bd K => ∃ (n : Int) (low : Int) (high : Int), args = [.int .i64 (n), .int .i64 (low), .int .i64 (high)] ∧ (K (.bool (decide (low ≤ n ∧ n ≤ high))) H Bd)
@[go_sem ↓] theorem W23_eq (n : Int) (low : Int) (high : Int) (H : AH) (Bd : Nat) (K : Value → AH → Nat → Prop) : W23 [.int .i64 (n), .int .i64 (low), .int .i64 (high)] H Bd K = (K (.bool (decide (low ≤ n ∧ n ≤ high))) H Bd) := by
  refine propext ⟨fun h => ?_, fun h => ⟨_, _, _, rfl, h⟩⟩
  obtain ⟨n', low', high', e, h⟩ := h
  skip
  skip
  skip
  simp only [List.cons.injEq, Value.agg.injEq, toArr_inj, Value.int.injEq, Value.bool.injEq, Value.string.injEq, Value.slice.injEq, Value.pointer.injEq, Option.some.injEq, Addr.mk.injEq, lst_inj, true_and, and_true] at e
  obtain ⟨rfl, rfl, rfl⟩ := e
  exact h
theorem W23_ok : OK 23 W23 := by
  rintro args H Bd K ⟨n, low, high, rfl, hK⟩
  refine fn_pure pok (Env.base _) [(1, [], [], (.k 4 (.grp true 10 13 3 [11, 12, 13] 14 none (.k 3 .nil) (.k 1 .nil))))] _ hK Tryd.func23 rfl (rs := [.tmp 6]) rfl Tryd.ntmps23 (by simp) Tryd.call23 (by kernel_rfl) (fun ha hb => .bool _) (fun hb ha => ?_)
  simp (maxSteps := 2000000) (disch := first | assumption | (refine asm_intro ?_; assumption) | exact Nat.le_add_right _ _ | exact Nat.le_refl _ | omega | (simp (disch := first | exact Nat.le_add_right _ _ | omega) only [Le_upd hb, Le_rfl, free_T hb, free_upd]; done) | fail) only [go_sem, push_cast, and_pos, Le_updF, Le_upd hb, free_T hb]
  all_goals first | done | trivial | ((try simp only [Cnp, Imp]); grind)
theorem G55 (g : Nat) (caps : Array Value) (p : GSymbol → Bool) (xs : List GSymbol) (H : AH) (Bd : Nat) (K : Value → AH → Nat → Prop) (hsm : sm xs) (hg : ∀ x ∈ xs, ∀ B, Bd ≤ B → ∀ K' : Value → AH → Nat → Prop, K' (.bool (p x)) H B → SCalls Tryd.prog g (idS ((.agg (enc (x)).toArray) :: caps.toList)) H B K') (hK : K (.int .i64 (fidx p xs)) H Bd) : SCalls Tryd.prog 55 [lst xs, .func (.func g) #[] caps] H Bd K := by
  refine fn_pure pok (Env.base _) [] _ hK Tryd.func55 rfl (rs := [.tmp 4]) rfl Tryd.ntmps55 (by simp) Tryd.call55 (by kernel_rfl) (fun ha hb => .int _ _) (fun hb ha => ?_)
  have hlen := sm_len hsm
  simp (maxSteps := 2000000) (disch := first | assumption | (refine asm_intro ?_; assumption) | exact Nat.le_add_right _ _ | exact Nat.le_refl _ | omega | (simp (disch := first | exact Nat.le_add_right _ _ | omega) only [Le_upd hb, Le_rfl, free_T hb, free_upd]; done) | fail) only [go_sem, push_cast, and_pos, Le_updF, Le_upd hb, free_T hb]
  refine tr_for (fun i => ∀ j, j < i → ∀ x, xs[j]? = some x → p x = false) (xs.length) (fun i => [(0, lst xs), (1, .func (.func g) #[] caps), (7, .int .i64 xs.length), (8, .int .i64 i)]) (by simp) (by simp only [go_sem, push_cast, and_pos, Le_updF]) ?_
  intro i Bi hIi hii hBi
  refine vq_conv pok (E := (Env.base _)) (PL := []) (by kernel_rfl) ?_
  rcases Nat.lt_or_ge i (xs.length) with hlti | hgei
  · have e1 : xs[i]? = some xs[i] := List.getElem?_eq_getElem hlti
    simp (maxSteps := 2000000) (disch := first | assumption | (refine asm_intro ?_; assumption) | exact Nat.le_add_right _ _ | exact Nat.le_refl _ | omega | (simp (disch := first | exact Nat.le_add_right _ _ | omega) only [Le_upd hb, Le_rfl, free_T hb, free_upd]; done) | fail) only [go_sem, push_cast, and_pos, Le_updF, Le_upd hb, free_T hb, e1]
    refine hg _ (List.getElem_mem hlti) _ (by omega) _ ?_
    simp (maxSteps := 2000000) (disch := first | assumption | (refine asm_intro ?_; assumption) | exact Nat.le_add_right _ _ | exact Nat.le_refl _ | omega | (simp (disch := first | exact Nat.le_add_right _ _ | omega) only [Le_upd hb, Le_rfl, free_T hb, free_upd]; done) | fail) only [go_sem, push_cast, and_pos, Le_updF, Le_upd hb, free_T hb, e1]
    exact ⟨fun h => by rw [fidx_hit hlti hIi h], fun h => fun j hj x hx => by
      by_cases e : j = i
      · subst e; rw [e1] at hx; cases hx; simpa using h
      · exact hIi j (by omega) x hx⟩
  · simp (maxSteps := 2000000) (disch := first | assumption | (refine asm_intro ?_; assumption) | exact Nat.le_add_right _ _ | exact Nat.le_refl _ | omega | (simp (disch := first | exact Nat.le_add_right _ _ | omega) only [Le_upd hb, Le_rfl, free_T hb, free_upd]; done) | fail) only [go_sem, push_cast, and_pos, Le_updF, Le_upd hb, free_T hb]
    refine vq_conv pok (E := (Env.base _)) (PL := []) (by kernel_rfl) ?_
    simp (maxSteps := 2000000) (disch := first | assumption | (refine asm_intro ?_; assumption) | exact Nat.le_add_right _ _ | exact Nat.le_refl _ | omega | (simp (disch := first | exact Nat.le_add_right _ _ | omega) only [Le_upd hb, Le_rfl, free_T hb, free_upd]; done) | fail) only [go_sem, push_cast, and_pos, Le_updF, Le_upd hb, free_T hb]
    rw [fidx_none fun j hj x hx => hIi j (by omega) x hx]
def V56 : Trans := fun args H Bd K => ∃ (x : GSymbol) (name : ByteArray), args = [.agg (enc (x)).toArray, .agg (enc (name)).toArray] ∧ (K (.bool (decide (x.name = name))) H Bd)
@[go_sem ↓] theorem V56_eq (x_name : ByteArray) (x_arity : Int) (name : ByteArray) (H : AH) (Bd : Nat) (K : Value → AH → Nat → Prop) : V56 [.agg #[.string (x_name), .int .i64 (x_arity)], .agg #[.string (name)]] H Bd K = (K (.bool (decide ((GSymbol.mk x_name x_arity).name = name))) H Bd) := by
  refine propext ⟨fun h => ?_, fun h => ⟨_, _, rfl, h⟩⟩
  obtain ⟨x', name', e, h⟩ := h
  obtain ⟨xname', xarity'⟩ := x'
  skip
  simp only [enc_GSymbol, enc_int, enc_str, enc_list, enc_bool, enc_byte, List.cons.injEq, Value.agg.injEq, toArr_inj, Value.int.injEq, Value.bool.injEq, Value.string.injEq, Value.slice.injEq, Value.pointer.injEq, Option.some.injEq, Addr.mk.injEq, lst_inj, true_and, and_true] at e
  obtain ⟨⟨rfl, rfl⟩, rfl⟩ := e
  exact h
def W56 : Trans := fun args H Bd K => ∃ (vx pname : Value), args = [vx, pname] ∧ Yld (cellsAt H 1 pname) fun cname => callW V56 [vx, .agg cname.toArray] H Bd K
@[go_sem ↓] theorem W56_eq (vx pname : Value) (H : AH) (Bd : Nat) (K : Value → AH → Nat → Prop) : W56 [vx, pname] H Bd K = (Yld (cellsAt H 1 pname) fun cname => callW V56 (idS [vx, .agg cname.toArray]) H Bd K) := by
  refine propext ⟨fun h => ?_, fun h => ⟨_, _, rfl, h⟩⟩
  obtain ⟨vx', pname', e, h⟩ := h
  simp only [List.cons.injEq, and_true] at e
  obtain ⟨rfl, rfl⟩ := e
  exact h
theorem W56_ok : OK 56 W56 := by
  rintro args H Bd K ⟨vx, pname, rfl, cname, ename, h⟩
  obtain ⟨x, name, e, hK⟩ := h
  simp only [List.cons.injEq, and_true] at e
  obtain ⟨rfl, Ename⟩ := e
  obtain rfl := agg_inj Ename
  refine fn_pure pok (Env.base _) [] _ hK Tryd.func56 rfl (rs := [.tmp 3]) rfl Tryd.ntmps56 (by simp) Tryd.call56 (by kernel_rfl) (fun ha hb => .bool _) (fun hb ha => ?_)
  have Pname := cellsAt_out ename (NB.vpok (ha pname (by simp)))
  simp only [enc_int, enc_str, enc_list, enc_bool, enc_byte] at Pname
  simp (maxSteps := 2000000) (disch := first | assumption | (refine asm_intro ?_; assumption) | exact Nat.le_add_right _ _ | exact Nat.le_refl _ | omega | (simp (disch := first | exact Nat.le_add_right _ _ | omega) only [Le_upd hb, Le_rfl, free_T hb, free_upd]; done) | fail) only [go_sem, push_cast, and_pos, Le_updF, Le_upd hb, free_T hb, Pname.nil, Pname.fldL (m := 1) rfl, Pname.ldL (m := 1) rfl, Pname.ld0L (m := 1) rfl, Pname.cellsL (m := 1) rfl, Pname.cellsOL (m := 1) rfl]

def V55_56 : Trans := fun args H Bd K => ∃ (xs : List GSymbol) (name : ByteArray), args = [lst (xs), .agg (enc (name)).toArray] ∧ ((sm xs) ∧ K (.int .i64 (fidx (fun x : GSymbol => decide (x.name = name)) xs)) H Bd)
@[go_sem ↓] theorem V55_56_eq (xs : List GSymbol) (name : ByteArray) (H : AH) (Bd : Nat) (K : Value → AH → Nat → Prop) : V55_56 [lst (xs), .agg #[.string (name)]] H Bd K = ((sm xs) ∧ K (.int .i64 (fidx (fun x : GSymbol => decide (x.name = name)) xs)) H Bd) := by
  refine propext ⟨fun h => ?_, fun h => ⟨_, _, rfl, h⟩⟩
  obtain ⟨xs', name', e, h⟩ := h
  skip
  skip
  simp only [enc_int, enc_str, enc_list, enc_bool, enc_byte, List.cons.injEq, Value.agg.injEq, toArr_inj, Value.int.injEq, Value.bool.injEq, Value.string.injEq, Value.slice.injEq, Value.pointer.injEq, Option.some.injEq, Addr.mk.injEq, lst_inj, true_and, and_true] at e
  obtain ⟨rfl, rfl⟩ := e
  exact h
def W55_56 : Trans := fun args H Bd K => ∃ (vxs pname : Value), args = [vxs, .func (.func 56) #[] #[pname]] ∧ Yld (cellsAt H 1 pname) fun cname => callW V55_56 [vxs, .agg cname.toArray] H Bd K
@[go_sem ↓] theorem W55_56_eq (vxs pname : Value) (H : AH) (Bd : Nat) (K : Value → AH → Nat → Prop) : W55_56 [vxs, .func (.func 56) #[] #[pname]] H Bd K = (Yld (cellsAt H 1 pname) fun cname => callW V55_56 (idS [vxs, .agg cname.toArray]) H Bd K) := by
  refine propext ⟨fun h => ?_, fun h => ⟨_, _, rfl, h⟩⟩
  obtain ⟨vxs', pname', e, h⟩ := h
  simp only [List.cons.injEq, Value.func.injEq, toArr_inj, List.cons.injEq, and_true, true_and] at e
  obtain ⟨rfl, rfl⟩ := e
  exact h
theorem W55_56_ok : OK 55 W55_56 := by
  rintro args H Bd K ⟨vxs, pname, rfl, cname, ename, h⟩
  obtain ⟨xs, name, e, hpre, hK⟩ := h
  simp only [List.cons.injEq, and_true] at e
  obtain ⟨rfl, Ename⟩ := e
  obtain rfl := agg_inj Ename
  refine G55 56 #[pname] (fun x : GSymbol => decide (x.name = name)) xs H Bd K hpre (fun x hx B hB K' hk => ?_) hK
  exact W56_ok _ _ _ _ ⟨_, _, rfl, _, ename, x, name, rfl, hk⟩

def W39 : Trans := fun args H Bd K => ∃ (s : GSignature) (name : ByteArray), args = [.agg (enc (s)).toArray, .string (name)] ∧ ((sm s) ∧ K (.int .i64 (symIdx s name)) H Bd)
@[go_sem ↓] theorem W39_eq (s_symbols : List GSymbol) (name : ByteArray) (H : AH) (Bd : Nat) (K : Value → AH → Nat → Prop) : W39 [.agg #[lst (s_symbols)], .string (name)] H Bd K = ((sm (GSignature.mk s_symbols)) ∧ K (.int .i64 (symIdx (GSignature.mk s_symbols) name)) H Bd) := by
  refine propext ⟨fun h => ?_, fun h => ⟨_, _, rfl, h⟩⟩
  obtain ⟨s', name', e, h⟩ := h
  obtain ⟨ssymbols'⟩ := s'
  skip
  simp only [enc_GSignature, List.cons.injEq, Value.agg.injEq, toArr_inj, Value.int.injEq, Value.bool.injEq, Value.string.injEq, Value.slice.injEq, Value.pointer.injEq, Option.some.injEq, Addr.mk.injEq, lst_inj, true_and, and_true] at e
  obtain ⟨rfl, rfl⟩ := e
  exact h
theorem W39_ok : OK 39 W39 := by
  rintro args H Bd K ⟨s, name, rfl, hpre, hK⟩
  refine fn_pure pok ((Env.base _).add 55 _ W55_56_ok) [] _ hK Tryd.func39 rfl (rs := [.tmp 4]) rfl Tryd.ntmps39 (by simp) Tryd.call39 (by kernel_rfl) (fun ha hb => .int _ _) (fun hb ha => ?_)
  simp only [sm_GSignature] at hpre
  simp (maxSteps := 2000000) (disch := first | assumption | (refine asm_intro ?_; assumption) | exact Nat.le_add_right _ _ | exact Nat.le_refl _ | omega | (simp (disch := first | exact Nat.le_add_right _ _ | omega) only [Le_upd hb, Le_rfl, free_T hb, free_upd]; done) | fail) only [go_sem, push_cast, and_pos, Le_updF, Le_upd hb, free_T hb, hpre]
  try rfl

theorem G40 (g : Nat) (caps : Array Value) (p : GSymbol → Bool) (xs : List GSymbol) (H : AH) (Bd : Nat) (K : Value → AH → Nat → Prop) (hsm : sm xs) (hg : ∀ x ∈ xs, ∀ B, Bd ≤ B → ∀ K' : Value → AH → Nat → Prop, K' (.bool (p x)) H B → SCalls Tryd.prog g (idS ((.agg (enc (x)).toArray) :: caps.toList)) H B K') (hK : K (.bool (xs.any p)) H Bd) : SCalls Tryd.prog 40 [lst xs, .func (.func g) #[] caps] H Bd K := by
  refine fn_pure pok (Env.base _) [] _ hK Tryd.func40 rfl (rs := [.tmp 4]) rfl Tryd.ntmps40 (by simp) Tryd.call40 (by kernel_rfl) (fun ha hb => .bool _) (fun hb ha => ?_)
  simp (maxSteps := 2000000) (disch := first | assumption | (refine asm_intro ?_; assumption) | exact Nat.le_add_right _ _ | exact Nat.le_refl _ | omega | (simp (disch := first | exact Nat.le_add_right _ _ | omega) only [Le_upd hb, Le_rfl, free_T hb, free_upd]; done) | fail) only [go_sem, push_cast, and_pos, Le_updF, Le_upd hb, free_T hb]
  refine G55 _ _ p xs _ _ _ hsm hg ?_
  simp (maxSteps := 2000000) (disch := first | assumption | (refine asm_intro ?_; assumption) | exact Nat.le_add_right _ _ | exact Nat.le_refl _ | omega | (simp (disch := first | exact Nat.le_add_right _ _ | omega) only [Le_upd hb, Le_rfl, free_T hb, free_upd]; done) | fail) only [go_sem, push_cast, and_pos, Le_updF, Le_upd hb, free_T hb]
  exact fidx_ge p xs

end Go.Proofs.YtahnmogcmiajeaaDoor
