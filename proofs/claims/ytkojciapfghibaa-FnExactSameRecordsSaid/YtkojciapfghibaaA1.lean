/- YtkojciapfghibaaA1 -/
import Derived.Test.YtkojciapfghibaaFacts
set_option linter.unusedSimpArgs false
set_option linter.unusedVariables false
set_option maxRecDepth 20000
namespace Go.Proofs.Ytkojciapfghibaa
open Go Go.SC
def W33 : Trans := fun args H Bd K => ∃ (xs : List Int) (left : Int), args = [lst (xs), .int .i64 (left)] ∧ ((sm xs ∧ -1 ≤ left ∧ left ≤ 1048576) ∧ K (.int .i64 (szP (tot xs) left)) H Bd)
@[go_sem ↓] theorem W33_eq (xs : List Int) (left : Int) (H : AH) (Bd : Nat) (K : Value → AH → Nat → Prop) : W33 [lst (xs), .int .i64 (left)] H Bd K = ((sm xs ∧ -1 ≤ left ∧ left ≤ 1048576) ∧ K (.int .i64 (szP (tot xs) left)) H Bd) := by
  refine propext ⟨fun h => ?_, fun h => ⟨_, _, rfl, h⟩⟩
  obtain ⟨xs', left', e, h⟩ := h
  skip
  skip
  simp only [List.cons.injEq, Value.agg.injEq, toArr_inj, Value.int.injEq, Value.bool.injEq, Value.string.injEq, Value.slice.injEq, Value.pointer.injEq, Option.some.injEq, Addr.mk.injEq, lst_inj, true_and, and_true] at e
  obtain ⟨rfl, rfl⟩ := e
  exact h
theorem W33_ok : ∀ args H Bd K, W33 args H Bd K → SCalls Try.prog 33 args H Bd K := by
  rintro args H Bd K ⟨xs, left, rfl, hpre, hK⟩
  refine fn_pure pok (Env.base _) [] _ hK Try.func33 rfl (rs := [.tmp 4]) rfl Try.ntmps33 Try.call33 (by kernel_rfl) (fun ha hb => .int _ _) (fun hb ha => ?_)
  obtain ⟨h1, h2, h3⟩ := hpre
  have hlen := sm_len h1
  have e : tot xs = xs.length := by simp
  rw [e]
  simp (maxSteps := 2000000) (disch := first | assumption | (refine asm_intro ?_; assumption) | exact Nat.le_add_right _ _ | exact Nat.le_refl _ | omega | (simp (disch := first | exact Nat.le_add_right _ _ | omega) only [Le_upd hb, Le_rfl, free_T hb]; done) | fail) only [go_sem, push_cast, Nat.reduceAdd, Nat.reduceSub, Nat.reduceMul, Nat.reduceEqDiff, Nat.reduceLeDiff, Int.reduceNeg, Int.reduceAdd, Int.reduceSub, Int.reduceLE, Int.reduceLT, Int.reduceToNat, Nat.reduceLT, ↓reduceIte, reduceCtorEq, false_or, or_false, true_or, or_true, and_pos, ne_eq, not_true_eq_false, not_false_eq_true, Nat.lt_irrefl, eq_self, decide_true, decide_false, Bool.not_true, Bool.not_false, Le_upd hb, free_T hb]
  unfold szP
  exact Cnp.of (fun h => by rw [if_pos h]) (fun h => by rw [if_neg h])
def W27 : Trans := fun args H Bd K => ∃ (x : GRecord) (left : Int), args = [.agg (enc (x)).toArray, .int .i64 (left)] ∧ ((sm x ∧ 0 ≤ left ∧ left ≤ 1048576) ∧ K (.int .i64 (szP (tot x) left)) H Bd)
@[go_sem ↓] theorem W27_eq (x_term : List Int) (x_value : Int) (left : Int) (H : AH) (Bd : Nat) (K : Value → AH → Nat → Prop) : W27 [.agg #[lst (x_term), .int .i64 (x_value)], .int .i64 (left)] H Bd K = ((sm (GRecord.mk x_term x_value) ∧ 0 ≤ left ∧ left ≤ 1048576) ∧ K (.int .i64 (szP (tot (GRecord.mk x_term x_value)) left)) H Bd) := by
  refine propext ⟨fun h => ?_, fun h => ⟨_, _, rfl, h⟩⟩
  obtain ⟨x', left', e, h⟩ := h
  obtain ⟨xterm', xvalue'⟩ := x'
  skip
  simp only [enc_GRecord, List.cons.injEq, Value.agg.injEq, toArr_inj, Value.int.injEq, Value.bool.injEq, Value.string.injEq, Value.slice.injEq, Value.pointer.injEq, Option.some.injEq, Addr.mk.injEq, lst_inj, true_and, and_true] at e
  obtain ⟨⟨rfl, rfl⟩, rfl⟩ := e
  exact h
theorem W27_ok : ∀ args H Bd K, W27 args H Bd K → SCalls Try.prog 27 args H Bd K := by
  rintro args H Bd K ⟨x, left, rfl, hpre, hK⟩
  refine fn_pure pok ((Env.base _).add 33 W33 W33_ok) [] _ hK Try.func27 rfl (rs := [.tmp 4]) rfl Try.ntmps27 Try.call27 (by kernel_rfl) (fun ha hb => .int _ _) (fun hb ha => ?_)
  obtain ⟨h1, h2, h3⟩ := hpre
  simp only [sm_GRecord, sm_str] at h1
  have q0 : -1 ≤ left ∧ left ≤ 1048576 := ⟨by omega, h3⟩
  have q1 := szP_bd (tot x.term) (left := left)
  have ez : tot x = tot x.term := by simp [tot_GRecord]
  rw [ez]
  simp (maxSteps := 2000000) (disch := first | assumption | (refine asm_intro ?_; assumption) | exact Nat.le_add_right _ _ | exact Nat.le_refl _ | omega | (simp (disch := first | exact Nat.le_add_right _ _ | omega) only [Le_upd hb, Le_rfl, free_T hb]; done) | fail) only [go_sem, push_cast, Nat.reduceAdd, Nat.reduceSub, Nat.reduceMul, Nat.reduceEqDiff, Nat.reduceLeDiff, Int.reduceNeg, Int.reduceAdd, Int.reduceSub, Int.reduceLE, Int.reduceLT, Int.reduceToNat, Nat.reduceLT, ↓reduceIte, reduceCtorEq, false_or, or_false, true_or, or_true, and_pos, ne_eq, not_true_eq_false, not_false_eq_true, Nat.lt_irrefl, eq_self, decide_true, decide_false, Bool.not_true, Bool.not_false, Le_upd hb, free_T hb, h1]
  first | exact szP_last | exact szP_lastT
def W10 : Trans := fun args H Bd K => ∃ (xs : List GRecord) (left : Int), args = [lst (xs), .int .i64 (left)] ∧ ((sm xs ∧ 0 ≤ left ∧ left ≤ 1048576) ∧ K (.int .i64 (szP (tot xs) left)) H Bd)
@[go_sem ↓] theorem W10_eq (xs : List GRecord) (left : Int) (H : AH) (Bd : Nat) (K : Value → AH → Nat → Prop) : W10 [lst (xs), .int .i64 (left)] H Bd K = ((sm xs ∧ 0 ≤ left ∧ left ≤ 1048576) ∧ K (.int .i64 (szP (tot xs) left)) H Bd) := by
  refine propext ⟨fun h => ?_, fun h => ⟨_, _, rfl, h⟩⟩
  obtain ⟨xs', left', e, h⟩ := h
  skip
  skip
  simp only [List.cons.injEq, Value.agg.injEq, toArr_inj, Value.int.injEq, Value.bool.injEq, Value.string.injEq, Value.slice.injEq, Value.pointer.injEq, Option.some.injEq, Addr.mk.injEq, lst_inj, true_and, and_true] at e
  obtain ⟨rfl, rfl⟩ := e
  exact h
theorem W10_ok : ∀ args H Bd K, W10 args H Bd K → SCalls Try.prog 10 args H Bd K := by
  rintro args H Bd K ⟨xs, left, rfl, hpre, hK⟩
  refine fn_pure pok ((Env.base _).add 27 W27 W27_ok) [] _ hK Try.func10 rfl (rs := [.tmp 4]) rfl Try.ntmps10 Try.call10 (by kernel_rfl) (fun ha hb => .int _ _) (fun hb ha => ?_)
  obtain ⟨h1, h2, h3⟩ := hpre
  have hlen := sm_len h1
  have e : tot xs = xs.length + (xs.map tot).sum := tot_list xs
  simp (maxSteps := 2000000) (disch := first | assumption | (refine asm_intro ?_; assumption) | exact Nat.le_add_right _ _ | exact Nat.le_refl _ | omega | (simp (disch := first | exact Nat.le_add_right _ _ | omega) only [Le_upd hb, Le_rfl, free_T hb]; done) | fail) only [go_sem, push_cast, Nat.reduceAdd, Nat.reduceSub, Nat.reduceMul, Nat.reduceEqDiff, Nat.reduceLeDiff, Int.reduceNeg, Int.reduceAdd, Int.reduceSub, Int.reduceLE, Int.reduceLT, Int.reduceToNat, Nat.reduceLT, ↓reduceIte, reduceCtorEq, false_or, or_false, true_or, or_true, and_pos, ne_eq, not_true_eq_false, not_false_eq_true, Nat.lt_irrefl, eq_self, decide_true, decide_false, Bool.not_true, Bool.not_false, Le_upd hb, free_T hb]
  refine Cnp.of (fun h => by rw [e, szP_neg h]) (fun h => ?_)
  refine tr_for (fun i => 0 ≤ left - xs.length - totTo xs i) xs.length (fun i => mkS 27 [(0, lst xs), (1, .int .i64 (left - xs.length - totTo xs i)), (5, .int .i64 i)]) (by simp; omega) (by simp only [go_sem, push_cast, Nat.reduceAdd, Nat.reduceSub, Nat.reduceMul, Nat.reduceEqDiff, Nat.reduceLeDiff, Int.reduceNeg, Int.reduceAdd, Int.reduceSub, Int.reduceLE, Int.reduceLT, Int.reduceToNat, Nat.reduceLT, ↓reduceIte, reduceCtorEq, false_or, or_false, true_or, or_true, and_pos, ne_eq, not_true_eq_false, not_false_eq_true, Nat.lt_irrefl, eq_self, decide_true, decide_false, Bool.not_true, Bool.not_false, totTo_zero, Int.sub_zero]) ?_
  intro i B0 hI hi hB
  refine vq_conv pok (E := ((Env.base _).add 27 W27 W27_ok)) (PL := []) (by kernel_rfl) ?_
  rcases Nat.lt_or_ge i xs.length with hlt | hge
  · have e1 : xs[i]? = some xs[i] := List.getElem?_eq_getElem hlt
    have hx := sm_mem h1 (List.getElem_mem hlt)
    have hst := totTo_succ xs hlt
    skip
    simp (maxSteps := 2000000) (disch := first | assumption | (refine asm_intro ?_; assumption) | exact Nat.le_add_right _ _ | exact Nat.le_refl _ | omega | (simp (disch := first | exact Nat.le_add_right _ _ | omega) only [Le_upd hb, Le_rfl, free_T hb]; done) | fail) only [go_sem, push_cast, Nat.reduceAdd, Nat.reduceSub, Nat.reduceMul, Nat.reduceEqDiff, Nat.reduceLeDiff, Int.reduceNeg, Int.reduceAdd, Int.reduceSub, Int.reduceLE, Int.reduceLT, Int.reduceToNat, Nat.reduceLT, ↓reduceIte, reduceCtorEq, false_or, or_false, true_or, or_true, and_pos, ne_eq, not_true_eq_false, not_false_eq_true, Nat.lt_irrefl, eq_self, decide_true, decide_false, Bool.not_true, Bool.not_false, Le_upd hb, free_T hb, e1, hx]
    exact sz_step hlt hI
  · simp (maxSteps := 2000000) (disch := first | assumption | (refine asm_intro ?_; assumption) | exact Nat.le_add_right _ _ | exact Nat.le_refl _ | omega | (simp (disch := first | exact Nat.le_add_right _ _ | omega) only [Le_upd hb, Le_rfl, free_T hb]; done) | fail) only [go_sem, push_cast, Nat.reduceAdd, Nat.reduceSub, Nat.reduceMul, Nat.reduceEqDiff, Nat.reduceLeDiff, Int.reduceNeg, Int.reduceAdd, Int.reduceSub, Int.reduceLE, Int.reduceLT, Int.reduceToNat, Nat.reduceLT, ↓reduceIte, reduceCtorEq, false_or, or_false, true_or, or_true, and_pos, ne_eq, not_true_eq_false, not_false_eq_true, Nat.lt_irrefl, eq_self, decide_true, decide_false, Bool.not_true, Bool.not_false, Le_upd hb, free_T hb]
    refine vq_conv pok (E := ((Env.base _).add 27 W27 W27_ok)) (PL := []) (by kernel_rfl) ?_
    simp (maxSteps := 2000000) (disch := first | assumption | (refine asm_intro ?_; assumption) | exact Nat.le_add_right _ _ | exact Nat.le_refl _ | omega | (simp (disch := first | exact Nat.le_add_right _ _ | omega) only [Le_upd hb, Le_rfl, free_T hb]; done) | fail) only [go_sem, push_cast, Nat.reduceAdd, Nat.reduceSub, Nat.reduceMul, Nat.reduceEqDiff, Nat.reduceLeDiff, Int.reduceNeg, Int.reduceAdd, Int.reduceSub, Int.reduceLE, Int.reduceLT, Int.reduceToNat, Nat.reduceLT, ↓reduceIte, reduceCtorEq, false_or, or_false, true_or, or_true, and_pos, ne_eq, not_true_eq_false, not_false_eq_true, Nat.lt_irrefl, eq_self, decide_true, decide_false, Bool.not_true, Bool.not_false, Le_upd hb, free_T hb]
    exact sz_end hge hI
def W36 : Trans := fun args H Bd K => ∃ (xs : List Int), args = [lst (xs)] ∧ ((sm xs ∧ tot xs ≤ 1048576) ∧ K (lst (xs)) H Bd)
@[go_sem ↓] theorem W36_eq (xs : List Int) (H : AH) (Bd : Nat) (K : Value → AH → Nat → Prop) : W36 [lst (xs)] H Bd K = ((sm xs ∧ tot xs ≤ 1048576) ∧ K (lst (xs)) H Bd) := by
  refine propext ⟨fun h => ?_, fun h => ⟨_, rfl, h⟩⟩
  obtain ⟨xs', e, h⟩ := h
  skip
  simp only [List.cons.injEq, Value.agg.injEq, toArr_inj, Value.int.injEq, Value.bool.injEq, Value.string.injEq, Value.slice.injEq, Value.pointer.injEq, Option.some.injEq, Addr.mk.injEq, lst_inj, true_and, and_true] at e
  obtain rfl := e
  exact h
theorem W36_ok : ∀ args H Bd K, W36 args H Bd K → SCalls Try.prog 36 args H Bd K := by
  rintro args H Bd K ⟨xs, rfl, hpre, hK⟩
  refine fn_pure pok (Env.base _) [] _ hK Try.func36 rfl (rs := [.tmp 2]) rfl Try.ntmps36 Try.call36 (by kernel_rfl) (fun ha hb => lst_nb _ _) (fun hb ha => ?_)
  obtain ⟨h1, h2⟩ := hpre
  have e : tot xs = xs.length + (xs.map tot).sum := tot_list xs
  simp (maxSteps := 2000000) (disch := first | assumption | (refine asm_intro ?_; assumption) | exact Nat.le_add_right _ _ | exact Nat.le_refl _ | omega | (simp (disch := first | exact Nat.le_add_right _ _ | omega) only [Le_upd hb, Le_rfl, free_T hb]; done) | fail) only [go_sem, push_cast, Nat.reduceAdd, Nat.reduceSub, Nat.reduceMul, Nat.reduceEqDiff, Nat.reduceLeDiff, Int.reduceNeg, Int.reduceAdd, Int.reduceSub, Int.reduceLE, Int.reduceLT, Int.reduceToNat, Nat.reduceLT, ↓reduceIte, reduceCtorEq, false_or, or_false, true_or, or_true, and_pos, ne_eq, not_true_eq_false, not_false_eq_true, Nat.lt_irrefl, eq_self, decide_true, decide_false, Bool.not_true, Bool.not_false, Le_upd hb, free_T hb]
  refine tr_fill (α := Int) hb xs (fun i => mkS 22 [(0, lst xs), (3, .slice (some ⟨Bd, 0, some 1⟩) xs.length (xs.length + 1)), (4, .int .i64 i)]) _ (zmake_len _ _) ⟨Nat.le_refl _, by omega⟩ (by simp only [go_sem, push_cast, Nat.reduceAdd, Nat.reduceSub, Nat.reduceMul, Nat.reduceEqDiff, Nat.reduceLeDiff, Int.reduceNeg, Int.reduceAdd, Int.reduceSub, Int.reduceLE, Int.reduceLT, Int.reduceToNat, Nat.reduceLT, ↓reduceIte, reduceCtorEq, false_or, or_false, true_or, or_true, and_pos, ne_eq, not_true_eq_false, not_false_eq_true, Nat.lt_irrefl, eq_self, decide_true, decide_false, Bool.not_true, Bool.not_false]) (Le.refl _) ?_
  intro i L B hi hL hF hB hb'
  refine vq_conv pok (E := (Env.base _)) (PL := []) (by kernel_rfl) ?_
  have hL' : L.length = xs.length * 1 := hL
  rcases Nat.lt_or_ge i xs.length with hlt | hge
  · have e1 : xs[i]? = some xs[i] := List.getElem?_eq_getElem hlt
    have hx := sm_mem h1 (List.getElem_mem hlt)
    have hx2 : tot xs[i] ≤ (xs.map tot).sum := tot_mem hlt
    simp (maxSteps := 2000000) (disch := first | assumption | (refine asm_intro ?_; assumption) | exact Nat.le_add_right _ _ | exact Nat.le_refl _ | omega | (simp (disch := first | exact Nat.le_add_right _ _ | omega) only [Le_upd hb, Le_rfl, free_T hb]; done) | fail) only [go_sem, push_cast, Nat.reduceAdd, Nat.reduceSub, Nat.reduceMul, Nat.reduceEqDiff, Nat.reduceLeDiff, Int.reduceNeg, Int.reduceAdd, Int.reduceSub, Int.reduceLE, Int.reduceLT, Int.reduceToNat, Nat.reduceLT, ↓reduceIte, reduceCtorEq, false_or, or_false, true_or, or_true, and_pos, ne_eq, not_true_eq_false, not_false_eq_true, Nat.lt_irrefl, eq_self, decide_true, decide_false, Bool.not_true, Bool.not_false, Le_upd hb, free_T hb, e1, hx]
    exact ⟨_, rfl, Le.refl _⟩
  · simp (maxSteps := 2000000) (disch := first | assumption | (refine asm_intro ?_; assumption) | exact Nat.le_add_right _ _ | exact Nat.le_refl _ | omega | (simp (disch := first | exact Nat.le_add_right _ _ | omega) only [Le_upd hb, Le_rfl, free_T hb]; done) | fail) only [go_sem, push_cast, Nat.reduceAdd, Nat.reduceSub, Nat.reduceMul, Nat.reduceEqDiff, Nat.reduceLeDiff, Int.reduceNeg, Int.reduceAdd, Int.reduceSub, Int.reduceLE, Int.reduceLT, Int.reduceToNat, Nat.reduceLT, ↓reduceIte, reduceCtorEq, false_or, or_false, true_or, or_true, and_pos, ne_eq, not_true_eq_false, not_false_eq_true, Nat.lt_irrefl, eq_self, decide_true, decide_false, Bool.not_true, Bool.not_false, Le_upd hb, free_T hb]
    have hf : L = flat xs := by
      rw [List.take_of_length_le (by rw [hL]; exact Nat.mul_le_mul_right _ hge), List.take_of_length_le hge] at hF
      exact hF
    subst hf
    refine Tr.fin hb 3 (Nat.le_refl Bd) (by simp only [go_sem, push_cast, Nat.reduceAdd, Nat.reduceSub, Nat.reduceMul, Nat.reduceEqDiff, Nat.reduceLeDiff, Int.reduceNeg, Int.reduceAdd, Int.reduceSub, Int.reduceLE, Int.reduceLT, Int.reduceToNat, Nat.reduceLT, ↓reduceIte, reduceCtorEq, false_or, or_false, true_or, or_true, and_pos, ne_eq, not_true_eq_false, not_false_eq_true, Nat.lt_irrefl, eq_self, decide_true, decide_false, Bool.not_true, Bool.not_false]; rfl) rfl ?_
    refine vq_conv pok (E := (Env.base _)) (PL := []) (by kernel_rfl) ?_
    simp (maxSteps := 2000000) (disch := first | assumption | (refine asm_intro ?_; assumption) | exact Nat.le_add_right _ _ | exact Nat.le_refl _ | omega | (simp (disch := first | exact Nat.le_add_right _ _ | omega) only [Le_upd hb, Le_rfl, free_T hb]; done) | fail) only [go_sem, push_cast, Nat.reduceAdd, Nat.reduceSub, Nat.reduceMul, Nat.reduceEqDiff, Nat.reduceLeDiff, Int.reduceNeg, Int.reduceAdd, Int.reduceSub, Int.reduceLE, Int.reduceLT, Int.reduceToNat, Nat.reduceLT, ↓reduceIte, reduceCtorEq, false_or, or_false, true_or, or_true, and_pos, ne_eq, not_true_eq_false, not_false_eq_true, Nat.lt_irrefl, eq_self, decide_true, decide_false, Bool.not_true, Bool.not_false, Le_upd hb, free_T hb]
def W29 : Trans := fun args H Bd K => ∃ (x : GRecord), args = [.agg (enc (x)).toArray] ∧ ((sm x ∧ tot x ≤ 1048576) ∧ K (.agg (enc (x)).toArray) H Bd)
@[go_sem ↓] theorem W29_eq (x_term : List Int) (x_value : Int) (H : AH) (Bd : Nat) (K : Value → AH → Nat → Prop) : W29 [.agg #[lst (x_term), .int .i64 (x_value)]] H Bd K = ((sm (GRecord.mk x_term x_value) ∧ tot (GRecord.mk x_term x_value) ≤ 1048576) ∧ K (.agg (enc ((GRecord.mk x_term x_value))).toArray) H Bd) := by
  refine propext ⟨fun h => ?_, fun h => ⟨_, rfl, h⟩⟩
  obtain ⟨x', e, h⟩ := h
  obtain ⟨xterm', xvalue'⟩ := x'
  simp only [enc_GRecord, List.cons.injEq, Value.agg.injEq, toArr_inj, Value.int.injEq, Value.bool.injEq, Value.string.injEq, Value.slice.injEq, Value.pointer.injEq, Option.some.injEq, Addr.mk.injEq, lst_inj, true_and, and_true] at e
  obtain ⟨rfl, rfl⟩ := e
  exact h
theorem W29_ok : ∀ args H Bd K, W29 args H Bd K → SCalls Try.prog 29 args H Bd K := by
  rintro args H Bd K ⟨x, rfl, hpre, hK⟩
  refine fn_pure pok ((Env.base _).add 36 W36 W36_ok) [] _ hK Try.func29 rfl (rs := [.cell 2 69]) rfl Try.ntmps29 Try.call29 (by kernel_rfl) (fun ha hb => agg_nb _ _) (fun hb ha => ?_)
  obtain ⟨h1, h2⟩ := hpre
  simp only [sm_GRecord] at h1
  simp only [tot_GRecord] at h2
  simp (maxSteps := 2000000) (disch := first | assumption | (refine asm_intro ?_; assumption) | exact Nat.le_add_right _ _ | exact Nat.le_refl _ | omega | (simp (disch := first | exact Nat.le_add_right _ _ | omega) only [Le_upd hb, Le_rfl, free_T hb]; done) | fail) only [go_sem, push_cast, Nat.reduceAdd, Nat.reduceSub, Nat.reduceMul, Nat.reduceEqDiff, Nat.reduceLeDiff, Int.reduceNeg, Int.reduceAdd, Int.reduceSub, Int.reduceLE, Int.reduceLT, Int.reduceToNat, Nat.reduceLT, ↓reduceIte, reduceCtorEq, false_or, or_false, true_or, or_true, and_pos, ne_eq, not_true_eq_false, not_false_eq_true, Nat.lt_irrefl, eq_self, decide_true, decide_false, Bool.not_true, Bool.not_false, Le_upd hb, free_T hb, h1]
def W12 : Trans := fun args H Bd K => ∃ (xs : List GRecord), args = [lst (xs)] ∧ ((sm xs ∧ tot xs ≤ 1048576) ∧ K (lst (xs)) H Bd)
@[go_sem ↓] theorem W12_eq (xs : List GRecord) (H : AH) (Bd : Nat) (K : Value → AH → Nat → Prop) : W12 [lst (xs)] H Bd K = ((sm xs ∧ tot xs ≤ 1048576) ∧ K (lst (xs)) H Bd) := by
  refine propext ⟨fun h => ?_, fun h => ⟨_, rfl, h⟩⟩
  obtain ⟨xs', e, h⟩ := h
  skip
  simp only [List.cons.injEq, Value.agg.injEq, toArr_inj, Value.int.injEq, Value.bool.injEq, Value.string.injEq, Value.slice.injEq, Value.pointer.injEq, Option.some.injEq, Addr.mk.injEq, lst_inj, true_and, and_true] at e
  obtain rfl := e
  exact h
theorem W12_ok : ∀ args H Bd K, W12 args H Bd K → SCalls Try.prog 12 args H Bd K := by
  rintro args H Bd K ⟨xs, rfl, hpre, hK⟩
  refine fn_pure pok ((Env.base _).add 29 W29 W29_ok) [] _ hK Try.func12 rfl (rs := [.tmp 2]) rfl Try.ntmps12 Try.call12 (by kernel_rfl) (fun ha hb => lst_nb _ _) (fun hb ha => ?_)
  obtain ⟨h1, h2⟩ := hpre
  have e : tot xs = xs.length + (xs.map tot).sum := tot_list xs
  simp (maxSteps := 2000000) (disch := first | assumption | (refine asm_intro ?_; assumption) | exact Nat.le_add_right _ _ | exact Nat.le_refl _ | omega | (simp (disch := first | exact Nat.le_add_right _ _ | omega) only [Le_upd hb, Le_rfl, free_T hb]; done) | fail) only [go_sem, push_cast, Nat.reduceAdd, Nat.reduceSub, Nat.reduceMul, Nat.reduceEqDiff, Nat.reduceLeDiff, Int.reduceNeg, Int.reduceAdd, Int.reduceSub, Int.reduceLE, Int.reduceLT, Int.reduceToNat, Nat.reduceLT, ↓reduceIte, reduceCtorEq, false_or, or_false, true_or, or_true, and_pos, ne_eq, not_true_eq_false, not_false_eq_true, Nat.lt_irrefl, eq_self, decide_true, decide_false, Bool.not_true, Bool.not_false, Le_upd hb, free_T hb]
  refine tr_fill (α := GRecord) hb xs (fun i => mkS 23 [(0, lst xs), (3, .slice (some ⟨Bd, 0, some 2⟩) xs.length (xs.length + 1)), (4, .int .i64 i)]) _ (zmake_len _ _) ⟨Nat.le_refl _, by omega⟩ (by simp only [go_sem, push_cast, Nat.reduceAdd, Nat.reduceSub, Nat.reduceMul, Nat.reduceEqDiff, Nat.reduceLeDiff, Int.reduceNeg, Int.reduceAdd, Int.reduceSub, Int.reduceLE, Int.reduceLT, Int.reduceToNat, Nat.reduceLT, ↓reduceIte, reduceCtorEq, false_or, or_false, true_or, or_true, and_pos, ne_eq, not_true_eq_false, not_false_eq_true, Nat.lt_irrefl, eq_self, decide_true, decide_false, Bool.not_true, Bool.not_false]) (Le.refl _) ?_
  intro i L B hi hL hF hB hb'
  refine vq_conv pok (E := ((Env.base _).add 29 W29 W29_ok)) (PL := []) (by kernel_rfl) ?_
  have hL' : L.length = xs.length * 2 := hL
  rcases Nat.lt_or_ge i xs.length with hlt | hge
  · have e1 : xs[i]? = some xs[i] := List.getElem?_eq_getElem hlt
    have hx := sm_mem h1 (List.getElem_mem hlt)
    have hx2 : tot xs[i] ≤ (xs.map tot).sum := tot_mem hlt
    simp (maxSteps := 2000000) (disch := first | assumption | (refine asm_intro ?_; assumption) | exact Nat.le_add_right _ _ | exact Nat.le_refl _ | omega | (simp (disch := first | exact Nat.le_add_right _ _ | omega) only [Le_upd hb, Le_rfl, free_T hb]; done) | fail) only [go_sem, push_cast, Nat.reduceAdd, Nat.reduceSub, Nat.reduceMul, Nat.reduceEqDiff, Nat.reduceLeDiff, Int.reduceNeg, Int.reduceAdd, Int.reduceSub, Int.reduceLE, Int.reduceLT, Int.reduceToNat, Nat.reduceLT, ↓reduceIte, reduceCtorEq, false_or, or_false, true_or, or_true, and_pos, ne_eq, not_true_eq_false, not_false_eq_true, Nat.lt_irrefl, eq_self, decide_true, decide_false, Bool.not_true, Bool.not_false, Le_upd hb, free_T hb, e1, hx]
    exact ⟨_, rfl, Le.refl _⟩
  · simp (maxSteps := 2000000) (disch := first | assumption | (refine asm_intro ?_; assumption) | exact Nat.le_add_right _ _ | exact Nat.le_refl _ | omega | (simp (disch := first | exact Nat.le_add_right _ _ | omega) only [Le_upd hb, Le_rfl, free_T hb]; done) | fail) only [go_sem, push_cast, Nat.reduceAdd, Nat.reduceSub, Nat.reduceMul, Nat.reduceEqDiff, Nat.reduceLeDiff, Int.reduceNeg, Int.reduceAdd, Int.reduceSub, Int.reduceLE, Int.reduceLT, Int.reduceToNat, Nat.reduceLT, ↓reduceIte, reduceCtorEq, false_or, or_false, true_or, or_true, and_pos, ne_eq, not_true_eq_false, not_false_eq_true, Nat.lt_irrefl, eq_self, decide_true, decide_false, Bool.not_true, Bool.not_false, Le_upd hb, free_T hb]
    have hf : L = flat xs := by
      rw [List.take_of_length_le (by rw [hL]; exact Nat.mul_le_mul_right _ hge), List.take_of_length_le hge] at hF
      exact hF
    subst hf
    refine Tr.fin hb 3 (Nat.le_refl Bd) (by simp only [go_sem, push_cast, Nat.reduceAdd, Nat.reduceSub, Nat.reduceMul, Nat.reduceEqDiff, Nat.reduceLeDiff, Int.reduceNeg, Int.reduceAdd, Int.reduceSub, Int.reduceLE, Int.reduceLT, Int.reduceToNat, Nat.reduceLT, ↓reduceIte, reduceCtorEq, false_or, or_false, true_or, or_true, and_pos, ne_eq, not_true_eq_false, not_false_eq_true, Nat.lt_irrefl, eq_self, decide_true, decide_false, Bool.not_true, Bool.not_false]; rfl) rfl ?_
    refine vq_conv pok (E := ((Env.base _).add 29 W29 W29_ok)) (PL := []) (by kernel_rfl) ?_
    simp (maxSteps := 2000000) (disch := first | assumption | (refine asm_intro ?_; assumption) | exact Nat.le_add_right _ _ | exact Nat.le_refl _ | omega | (simp (disch := first | exact Nat.le_add_right _ _ | omega) only [Le_upd hb, Le_rfl, free_T hb]; done) | fail) only [go_sem, push_cast, Nat.reduceAdd, Nat.reduceSub, Nat.reduceMul, Nat.reduceEqDiff, Nat.reduceLeDiff, Int.reduceNeg, Int.reduceAdd, Int.reduceSub, Int.reduceLE, Int.reduceLT, Int.reduceToNat, Nat.reduceLT, ↓reduceIte, reduceCtorEq, false_or, or_false, true_or, or_true, and_pos, ne_eq, not_true_eq_false, not_false_eq_true, Nat.lt_irrefl, eq_self, decide_true, decide_false, Bool.not_true, Bool.not_false, Le_upd hb, free_T hb]
def W28 : Trans := fun args H Bd K => ∃ (xs : List Int) (ys : List Int), args = [lst (xs), lst (ys)] ∧ ((sm xs) ∧ K (.bool (decide (xs = ys))) H Bd)
@[go_sem ↓] theorem W28_eq (xs : List Int) (ys : List Int) (H : AH) (Bd : Nat) (K : Value → AH → Nat → Prop) : W28 [lst (xs), lst (ys)] H Bd K = ((sm xs) ∧ K (.bool (decide (xs = ys))) H Bd) := by
  refine propext ⟨fun h => ?_, fun h => ⟨_, _, rfl, h⟩⟩
  obtain ⟨xs', ys', e, h⟩ := h
  skip
  skip
  simp only [List.cons.injEq, Value.agg.injEq, toArr_inj, Value.int.injEq, Value.bool.injEq, Value.string.injEq, Value.slice.injEq, Value.pointer.injEq, Option.some.injEq, Addr.mk.injEq, lst_inj, true_and, and_true] at e
  obtain ⟨rfl, rfl⟩ := e
  exact h
theorem W28_ok : ∀ args H Bd K, W28 args H Bd K → SCalls Try.prog 28 args H Bd K := by
  rintro args H Bd K ⟨xs, ys, rfl, hpre, hK⟩
  refine fn_pure pok (Env.base _) [(6, [0,1,2,3,4,5,6,7,8], [⟨0, [], []⟩, ⟨1, [], []⟩, ⟨2, [], []⟩, ⟨3, [], []⟩, ⟨4, [], []⟩, ⟨5, [], []⟩, ⟨6, [], []⟩, ⟨7, [], []⟩, ⟨8, [], []⟩])] _ hK Try.func28 rfl (rs := [.tmp 4]) rfl Try.ntmps28 Try.call28 (by kernel_rfl) (fun ha hb => .bool _) (fun hb ha => ?_)
  have hlen := sm_len hpre
  simp (maxSteps := 2000000) (disch := first | assumption | (refine asm_intro ?_; assumption) | exact Nat.le_add_right _ _ | exact Nat.le_refl _ | omega | (simp (disch := first | exact Nat.le_add_right _ _ | omega) only [Le_upd hb, Le_rfl, free_T hb]; done) | fail) only [go_sem, push_cast, Nat.reduceAdd, Nat.reduceSub, Nat.reduceMul, Nat.reduceEqDiff, Nat.reduceLeDiff, Int.reduceNeg, Int.reduceAdd, Int.reduceSub, Int.reduceLE, Int.reduceLT, Int.reduceToNat, Nat.reduceLT, ↓reduceIte, reduceCtorEq, false_or, or_false, true_or, or_true, and_pos, ne_eq, not_true_eq_false, not_false_eq_true, Nat.lt_irrefl, eq_self, decide_true, decide_false, Bool.not_true, Bool.not_false, Le_upd hb, free_T hb]
  refine Cnp.of (fun hl => ?_) (fun hl => cmp_len (by omega))
  have hl' : xs.length = ys.length := by omega
  refine tr_for (fun i => ∀ j, j < i → xs[j]? = ys[j]?) xs.length (fun i => mkS 26 [(0, lst xs), (1, lst ys), (5, .int .i64 i)]) (fun j h => by omega) (by simp only [go_sem, push_cast, Nat.reduceAdd, Nat.reduceSub, Nat.reduceMul, Nat.reduceEqDiff, Nat.reduceLeDiff, Int.reduceNeg, Int.reduceAdd, Int.reduceSub, Int.reduceLE, Int.reduceLT, Int.reduceToNat, Nat.reduceLT, ↓reduceIte, reduceCtorEq, false_or, or_false, true_or, or_true, and_pos, ne_eq, not_true_eq_false, not_false_eq_true, Nat.lt_irrefl, eq_self, decide_true, decide_false, Bool.not_true, Bool.not_false]) ?_
  intro i B0 hI hi hB
  refine vq_conv pok (E := (Env.base _)) (PL := [(6, [0,1,2,3,4,5,6,7,8], [⟨0, [], []⟩, ⟨1, [], []⟩, ⟨2, [], []⟩, ⟨3, [], []⟩, ⟨4, [], []⟩, ⟨5, [], []⟩, ⟨6, [], []⟩, ⟨7, [], []⟩, ⟨8, [], []⟩])]) (by kernel_rfl) ?_
  rcases Nat.lt_or_ge i xs.length with hlt | hge
  · have e1 : xs[i]? = some xs[i] := List.getElem?_eq_getElem hlt
    have e2 : ys[i]? = some (ys[i]'(by omega)) := List.getElem?_eq_getElem _
    have hx := sm_mem hpre (List.getElem_mem hlt)
    simp (maxSteps := 2000000) (disch := first | assumption | (refine asm_intro ?_; assumption) | exact Nat.le_add_right _ _ | exact Nat.le_refl _ | omega | (simp (disch := first | exact Nat.le_add_right _ _ | omega) only [Le_upd hb, Le_rfl, free_T hb]; done) | fail) only [go_sem, push_cast, Nat.reduceAdd, Nat.reduceSub, Nat.reduceMul, Nat.reduceEqDiff, Nat.reduceLeDiff, Int.reduceNeg, Int.reduceAdd, Int.reduceSub, Int.reduceLE, Int.reduceLT, Int.reduceToNat, Nat.reduceLT, ↓reduceIte, reduceCtorEq, false_or, or_false, true_or, or_true, and_pos, ne_eq, not_true_eq_false, not_false_eq_true, Nat.lt_irrefl, eq_self, decide_true, decide_false, Bool.not_true, Bool.not_false, Le_upd hb, free_T hb, e1, e2, hx]
    exact cmp_step hl' hI hlt (by omega) rfl fun h => h
  · simp (maxSteps := 2000000) (disch := first | assumption | (refine asm_intro ?_; assumption) | exact Nat.le_add_right _ _ | exact Nat.le_refl _ | omega | (simp (disch := first | exact Nat.le_add_right _ _ | omega) only [Le_upd hb, Le_rfl, free_T hb]; done) | fail) only [go_sem, push_cast, Nat.reduceAdd, Nat.reduceSub, Nat.reduceMul, Nat.reduceEqDiff, Nat.reduceLeDiff, Int.reduceNeg, Int.reduceAdd, Int.reduceSub, Int.reduceLE, Int.reduceLT, Int.reduceToNat, Nat.reduceLT, ↓reduceIte, reduceCtorEq, false_or, or_false, true_or, or_true, and_pos, ne_eq, not_true_eq_false, not_false_eq_true, Nat.lt_irrefl, eq_self, decide_true, decide_false, Bool.not_true, Bool.not_false, Le_upd hb, free_T hb]
    refine vq_conv pok (E := (Env.base _)) (PL := [(6, [0,1,2,3,4,5,6,7,8], [⟨0, [], []⟩, ⟨1, [], []⟩, ⟨2, [], []⟩, ⟨3, [], []⟩, ⟨4, [], []⟩, ⟨5, [], []⟩, ⟨6, [], []⟩, ⟨7, [], []⟩, ⟨8, [], []⟩])]) (by kernel_rfl) ?_
    simp (maxSteps := 2000000) (disch := first | assumption | (refine asm_intro ?_; assumption) | exact Nat.le_add_right _ _ | exact Nat.le_refl _ | omega | (simp (disch := first | exact Nat.le_add_right _ _ | omega) only [Le_upd hb, Le_rfl, free_T hb]; done) | fail) only [go_sem, push_cast, Nat.reduceAdd, Nat.reduceSub, Nat.reduceMul, Nat.reduceEqDiff, Nat.reduceLeDiff, Int.reduceNeg, Int.reduceAdd, Int.reduceSub, Int.reduceLE, Int.reduceLT, Int.reduceToNat, Nat.reduceLT, ↓reduceIte, reduceCtorEq, false_or, or_false, true_or, or_true, and_pos, ne_eq, not_true_eq_false, not_false_eq_true, Nat.lt_irrefl, eq_self, decide_true, decide_false, Bool.not_true, Bool.not_false, Le_upd hb, free_T hb]
    exact cmp_end hl' hI hge
def W11 : Trans := fun args H Bd K => ∃ (xs : List GRecord) (ys : List GRecord), args = [lst (xs), lst (ys)] ∧ ((sm xs) ∧ K (.bool (decide (xs = ys))) H Bd)
@[go_sem ↓] theorem W11_eq (xs : List GRecord) (ys : List GRecord) (H : AH) (Bd : Nat) (K : Value → AH → Nat → Prop) : W11 [lst (xs), lst (ys)] H Bd K = ((sm xs) ∧ K (.bool (decide (xs = ys))) H Bd) := by
  refine propext ⟨fun h => ?_, fun h => ⟨_, _, rfl, h⟩⟩
  obtain ⟨xs', ys', e, h⟩ := h
  skip
  skip
  simp only [List.cons.injEq, Value.agg.injEq, toArr_inj, Value.int.injEq, Value.bool.injEq, Value.string.injEq, Value.slice.injEq, Value.pointer.injEq, Option.some.injEq, Addr.mk.injEq, lst_inj, true_and, and_true] at e
  obtain ⟨rfl, rfl⟩ := e
  exact h
theorem W11_ok : ∀ args H Bd K, W11 args H Bd K → SCalls Try.prog 11 args H Bd K := by
  rintro args H Bd K ⟨xs, ys, rfl, hpre, hK⟩
  refine fn_pure pok ((Env.base _).add 28 W28 W28_ok) [(6, [0,1,2,3,4,5,6,7,8,9,10,11,12,13,14,15,16,17,18,19,20,21,22,23,24], [⟨0, [], []⟩, ⟨1, [], []⟩, ⟨2, [], []⟩, ⟨3, [], []⟩, ⟨4, [], []⟩, ⟨5, [], []⟩, ⟨6, [], []⟩, ⟨7, [], []⟩, ⟨8, [], []⟩, ⟨9, [], []⟩, ⟨10, [], []⟩, ⟨11, [], []⟩, ⟨12, [], []⟩, ⟨13, [], []⟩, ⟨14, [], []⟩, ⟨15, [], []⟩, ⟨16, [], []⟩, ⟨17, [], []⟩, ⟨18, [], []⟩, ⟨19, [], []⟩, ⟨20, [], []⟩, ⟨21, [], []⟩, ⟨22, [], []⟩, ⟨23, [], []⟩, ⟨24, [], []⟩])] _ hK Try.func11 rfl (rs := [.tmp 4]) rfl Try.ntmps11 Try.call11 (by kernel_rfl) (fun ha hb => .bool _) (fun hb ha => ?_)
  have hlen := sm_len hpre
  simp (maxSteps := 2000000) (disch := first | assumption | (refine asm_intro ?_; assumption) | exact Nat.le_add_right _ _ | exact Nat.le_refl _ | omega | (simp (disch := first | exact Nat.le_add_right _ _ | omega) only [Le_upd hb, Le_rfl, free_T hb]; done) | fail) only [go_sem, push_cast, Nat.reduceAdd, Nat.reduceSub, Nat.reduceMul, Nat.reduceEqDiff, Nat.reduceLeDiff, Int.reduceNeg, Int.reduceAdd, Int.reduceSub, Int.reduceLE, Int.reduceLT, Int.reduceToNat, Nat.reduceLT, ↓reduceIte, reduceCtorEq, false_or, or_false, true_or, or_true, and_pos, ne_eq, not_true_eq_false, not_false_eq_true, Nat.lt_irrefl, eq_self, decide_true, decide_false, Bool.not_true, Bool.not_false, Le_upd hb, free_T hb]
  refine Cnp.of (fun hl => ?_) (fun hl => cmp_len (by omega))
  have hl' : xs.length = ys.length := by omega
  refine tr_for (fun i => ∀ j, j < i → xs[j]? = ys[j]?) xs.length (fun i => mkS 42 [(0, lst xs), (1, lst ys), (5, .int .i64 i)]) (fun j h => by omega) (by simp only [go_sem, push_cast, Nat.reduceAdd, Nat.reduceSub, Nat.reduceMul, Nat.reduceEqDiff, Nat.reduceLeDiff, Int.reduceNeg, Int.reduceAdd, Int.reduceSub, Int.reduceLE, Int.reduceLT, Int.reduceToNat, Nat.reduceLT, ↓reduceIte, reduceCtorEq, false_or, or_false, true_or, or_true, and_pos, ne_eq, not_true_eq_false, not_false_eq_true, Nat.lt_irrefl, eq_self, decide_true, decide_false, Bool.not_true, Bool.not_false]) ?_
  intro i B0 hI hi hB
  refine vq_conv pok (E := ((Env.base _).add 28 W28 W28_ok)) (PL := [(6, [0,1,2,3,4,5,6,7,8,9,10,11,12,13,14,15,16,17,18,19,20,21,22,23,24], [⟨0, [], []⟩, ⟨1, [], []⟩, ⟨2, [], []⟩, ⟨3, [], []⟩, ⟨4, [], []⟩, ⟨5, [], []⟩, ⟨6, [], []⟩, ⟨7, [], []⟩, ⟨8, [], []⟩, ⟨9, [], []⟩, ⟨10, [], []⟩, ⟨11, [], []⟩, ⟨12, [], []⟩, ⟨13, [], []⟩, ⟨14, [], []⟩, ⟨15, [], []⟩, ⟨16, [], []⟩, ⟨17, [], []⟩, ⟨18, [], []⟩, ⟨19, [], []⟩, ⟨20, [], []⟩, ⟨21, [], []⟩, ⟨22, [], []⟩, ⟨23, [], []⟩, ⟨24, [], []⟩])]) (by kernel_rfl) ?_
  rcases Nat.lt_or_ge i xs.length with hlt | hge
  · have e1 : xs[i]? = some xs[i] := List.getElem?_eq_getElem hlt
    have e2 : ys[i]? = some (ys[i]'(by omega)) := List.getElem?_eq_getElem _
    have hx := sm_mem hpre (List.getElem_mem hlt)
    simp only [sm_GRecord] at hx
    simp (maxSteps := 2000000) (disch := first | assumption | (refine asm_intro ?_; assumption) | exact Nat.le_add_right _ _ | exact Nat.le_refl _ | omega | (simp (disch := first | exact Nat.le_add_right _ _ | omega) only [Le_upd hb, Le_rfl, free_T hb]; done) | fail) only [go_sem, push_cast, Nat.reduceAdd, Nat.reduceSub, Nat.reduceMul, Nat.reduceEqDiff, Nat.reduceLeDiff, Int.reduceNeg, Int.reduceAdd, Int.reduceSub, Int.reduceLE, Int.reduceLT, Int.reduceToNat, Nat.reduceLT, ↓reduceIte, reduceCtorEq, false_or, or_false, true_or, or_true, and_pos, ne_eq, not_true_eq_false, not_false_eq_true, Nat.lt_irrefl, eq_self, decide_true, decide_false, Bool.not_true, Bool.not_false, Le_upd hb, free_T hb, e1, e2, hx]
    have hc := cmp_step (A := ∀ j, j < i + 1 → xs[j]? = ys[j]?) hl' hI hlt (by omega) rfl fun h => h
    generalize xs[i] = x at hc ⊢
    generalize ys[i] = y at hc ⊢
    cases x; cases y
    simp only [Cnp, GRecord.mk.injEq] at hc ⊢
    refine ⟨fun h1 => ⟨fun h2 => hc.1 ⟨h1, h2⟩, fun h2 => hc.2 fun e => h2 e.2⟩, fun h1 => hc.2 fun e => h1 e.1⟩
  · simp (maxSteps := 2000000) (disch := first | assumption | (refine asm_intro ?_; assumption) | exact Nat.le_add_right _ _ | exact Nat.le_refl _ | omega | (simp (disch := first | exact Nat.le_add_right _ _ | omega) only [Le_upd hb, Le_rfl, free_T hb]; done) | fail) only [go_sem, push_cast, Nat.reduceAdd, Nat.reduceSub, Nat.reduceMul, Nat.reduceEqDiff, Nat.reduceLeDiff, Int.reduceNeg, Int.reduceAdd, Int.reduceSub, Int.reduceLE, Int.reduceLT, Int.reduceToNat, Nat.reduceLT, ↓reduceIte, reduceCtorEq, false_or, or_false, true_or, or_true, and_pos, ne_eq, not_true_eq_false, not_false_eq_true, Nat.lt_irrefl, eq_self, decide_true, decide_false, Bool.not_true, Bool.not_false, Le_upd hb, free_T hb]
    refine vq_conv pok (E := ((Env.base _).add 28 W28 W28_ok)) (PL := [(6, [0,1,2,3,4,5,6,7,8,9,10,11,12,13,14,15,16,17,18,19,20,21,22,23,24], [⟨0, [], []⟩, ⟨1, [], []⟩, ⟨2, [], []⟩, ⟨3, [], []⟩, ⟨4, [], []⟩, ⟨5, [], []⟩, ⟨6, [], []⟩, ⟨7, [], []⟩, ⟨8, [], []⟩, ⟨9, [], []⟩, ⟨10, [], []⟩, ⟨11, [], []⟩, ⟨12, [], []⟩, ⟨13, [], []⟩, ⟨14, [], []⟩, ⟨15, [], []⟩, ⟨16, [], []⟩, ⟨17, [], []⟩, ⟨18, [], []⟩, ⟨19, [], []⟩, ⟨20, [], []⟩, ⟨21, [], []⟩, ⟨22, [], []⟩, ⟨23, [], []⟩, ⟨24, [], []⟩])]) (by kernel_rfl) ?_
    simp (maxSteps := 2000000) (disch := first | assumption | (refine asm_intro ?_; assumption) | exact Nat.le_add_right _ _ | exact Nat.le_refl _ | omega | (simp (disch := first | exact Nat.le_add_right _ _ | omega) only [Le_upd hb, Le_rfl, free_T hb]; done) | fail) only [go_sem, push_cast, Nat.reduceAdd, Nat.reduceSub, Nat.reduceMul, Nat.reduceEqDiff, Nat.reduceLeDiff, Int.reduceNeg, Int.reduceAdd, Int.reduceSub, Int.reduceLE, Int.reduceLT, Int.reduceToNat, Nat.reduceLT, ↓reduceIte, reduceCtorEq, false_or, or_false, true_or, or_true, and_pos, ne_eq, not_true_eq_false, not_false_eq_true, Nat.lt_irrefl, eq_self, decide_true, decide_false, Bool.not_true, Bool.not_false, Le_upd hb, free_T hb]
    exact cmp_end hl' hI hge
def W54 : Trans := fun args H Bd K => ∃ (xs : List Int) (ys : List Int), args = [lst (xs), lst (ys)] ∧ ((sm xs) ∧ K (.bool (decide (xs = ys))) H Bd)
@[go_sem ↓] theorem W54_eq (xs : List Int) (ys : List Int) (H : AH) (Bd : Nat) (K : Value → AH → Nat → Prop) : W54 [lst (xs), lst (ys)] H Bd K = ((sm xs) ∧ K (.bool (decide (xs = ys))) H Bd) := by
  refine propext ⟨fun h => ?_, fun h => ⟨_, _, rfl, h⟩⟩
  obtain ⟨xs', ys', e, h⟩ := h
  skip
  skip
  simp only [List.cons.injEq, Value.agg.injEq, toArr_inj, Value.int.injEq, Value.bool.injEq, Value.string.injEq, Value.slice.injEq, Value.pointer.injEq, Option.some.injEq, Addr.mk.injEq, lst_inj, true_and, and_true] at e
  obtain ⟨rfl, rfl⟩ := e
  exact h
theorem W54_ok : ∀ args H Bd K, W54 args H Bd K → SCalls Try.prog 54 args H Bd K := by
  rintro args H Bd K ⟨xs, ys, rfl, hpre, hK⟩
  refine fn_pure pok (Env.base _) [(6, [0,1,2,3,4,5,6,7,8], [⟨0, [], []⟩, ⟨1, [], []⟩, ⟨2, [], []⟩, ⟨3, [], []⟩, ⟨4, [], []⟩, ⟨5, [], []⟩, ⟨6, [], []⟩, ⟨7, [], []⟩, ⟨8, [], []⟩])] _ hK Try.func54 rfl (rs := [.tmp 4]) rfl Try.ntmps54 Try.call54 (by kernel_rfl) (fun ha hb => .bool _) (fun hb ha => ?_)
  have hlen := sm_len hpre
  simp (maxSteps := 2000000) (disch := first | assumption | (refine asm_intro ?_; assumption) | exact Nat.le_add_right _ _ | exact Nat.le_refl _ | omega | (simp (disch := first | exact Nat.le_add_right _ _ | omega) only [Le_upd hb, Le_rfl, free_T hb]; done) | fail) only [go_sem, push_cast, Nat.reduceAdd, Nat.reduceSub, Nat.reduceMul, Nat.reduceEqDiff, Nat.reduceLeDiff, Int.reduceNeg, Int.reduceAdd, Int.reduceSub, Int.reduceLE, Int.reduceLT, Int.reduceToNat, Nat.reduceLT, ↓reduceIte, reduceCtorEq, false_or, or_false, true_or, or_true, and_pos, ne_eq, not_true_eq_false, not_false_eq_true, Nat.lt_irrefl, eq_self, decide_true, decide_false, Bool.not_true, Bool.not_false, Le_upd hb, free_T hb]
  refine Cnp.of (fun hl => ?_) (fun hl => cmp_len (by omega))
  have hl' : xs.length = ys.length := by omega
  refine tr_for (fun i => ∀ j, j < i → xs[j]? = ys[j]?) xs.length (fun i => mkS 26 [(0, lst xs), (1, lst ys), (12, .int .i64 xs.length), (13, .int .i64 i)]) (fun j h => by omega) (by simp only [go_sem, push_cast, Nat.reduceAdd, Nat.reduceSub, Nat.reduceMul, Nat.reduceEqDiff, Nat.reduceLeDiff, Int.reduceNeg, Int.reduceAdd, Int.reduceSub, Int.reduceLE, Int.reduceLT, Int.reduceToNat, Nat.reduceLT, ↓reduceIte, reduceCtorEq, false_or, or_false, true_or, or_true, and_pos, ne_eq, not_true_eq_false, not_false_eq_true, Nat.lt_irrefl, eq_self, decide_true, decide_false, Bool.not_true, Bool.not_false]) ?_
  intro i B0 hI hi hB
  refine vq_conv pok (E := (Env.base _)) (PL := [(6, [0,1,2,3,4,5,6,7,8], [⟨0, [], []⟩, ⟨1, [], []⟩, ⟨2, [], []⟩, ⟨3, [], []⟩, ⟨4, [], []⟩, ⟨5, [], []⟩, ⟨6, [], []⟩, ⟨7, [], []⟩, ⟨8, [], []⟩])]) (by kernel_rfl) ?_
  rcases Nat.lt_or_ge i xs.length with hlt | hge
  · have e1 : xs[i]? = some xs[i] := List.getElem?_eq_getElem hlt
    have e2 : ys[i]? = some (ys[i]'(by omega)) := List.getElem?_eq_getElem _
    have hx := sm_mem hpre (List.getElem_mem hlt)
    simp (maxSteps := 2000000) (disch := first | assumption | (refine asm_intro ?_; assumption) | exact Nat.le_add_right _ _ | exact Nat.le_refl _ | omega | (simp (disch := first | exact Nat.le_add_right _ _ | omega) only [Le_upd hb, Le_rfl, free_T hb]; done) | fail) only [go_sem, push_cast, Nat.reduceAdd, Nat.reduceSub, Nat.reduceMul, Nat.reduceEqDiff, Nat.reduceLeDiff, Int.reduceNeg, Int.reduceAdd, Int.reduceSub, Int.reduceLE, Int.reduceLT, Int.reduceToNat, Nat.reduceLT, ↓reduceIte, reduceCtorEq, false_or, or_false, true_or, or_true, and_pos, ne_eq, not_true_eq_false, not_false_eq_true, Nat.lt_irrefl, eq_self, decide_true, decide_false, Bool.not_true, Bool.not_false, Le_upd hb, free_T hb, e1, e2, hx]
    exact cmp_step hl' hI hlt (by omega) rfl fun h => h
  · simp (maxSteps := 2000000) (disch := first | assumption | (refine asm_intro ?_; assumption) | exact Nat.le_add_right _ _ | exact Nat.le_refl _ | omega | (simp (disch := first | exact Nat.le_add_right _ _ | omega) only [Le_upd hb, Le_rfl, free_T hb]; done) | fail) only [go_sem, push_cast, Nat.reduceAdd, Nat.reduceSub, Nat.reduceMul, Nat.reduceEqDiff, Nat.reduceLeDiff, Int.reduceNeg, Int.reduceAdd, Int.reduceSub, Int.reduceLE, Int.reduceLT, Int.reduceToNat, Nat.reduceLT, ↓reduceIte, reduceCtorEq, false_or, or_false, true_or, or_true, and_pos, ne_eq, not_true_eq_false, not_false_eq_true, Nat.lt_irrefl, eq_self, decide_true, decide_false, Bool.not_true, Bool.not_false, Le_upd hb, free_T hb]
    refine vq_conv pok (E := (Env.base _)) (PL := [(6, [0,1,2,3,4,5,6,7,8], [⟨0, [], []⟩, ⟨1, [], []⟩, ⟨2, [], []⟩, ⟨3, [], []⟩, ⟨4, [], []⟩, ⟨5, [], []⟩, ⟨6, [], []⟩, ⟨7, [], []⟩, ⟨8, [], []⟩])]) (by kernel_rfl) ?_
    simp (maxSteps := 2000000) (disch := first | assumption | (refine asm_intro ?_; assumption) | exact Nat.le_add_right _ _ | exact Nat.le_refl _ | omega | (simp (disch := first | exact Nat.le_add_right _ _ | omega) only [Le_upd hb, Le_rfl, free_T hb]; done) | fail) only [go_sem, push_cast, Nat.reduceAdd, Nat.reduceSub, Nat.reduceMul, Nat.reduceEqDiff, Nat.reduceLeDiff, Int.reduceNeg, Int.reduceAdd, Int.reduceSub, Int.reduceLE, Int.reduceLT, Int.reduceToNat, Nat.reduceLT, ↓reduceIte, reduceCtorEq, false_or, or_false, true_or, or_true, and_pos, ne_eq, not_true_eq_false, not_false_eq_true, Nat.lt_irrefl, eq_self, decide_true, decide_false, Bool.not_true, Bool.not_false, Le_upd hb, free_T hb]
    exact cmp_end hl' hI hge
def W31 : Trans := fun args H Bd K => ∃ (x : GRecord) (y : GRecord), args = [.agg (enc (x)).toArray, .agg (enc (y)).toArray] ∧ ((sm x) ∧ K (.bool (decide (x = y))) H Bd)
@[go_sem ↓] theorem W31_eq (x_term : List Int) (x_value : Int) (y_term : List Int) (y_value : Int) (H : AH) (Bd : Nat) (K : Value → AH → Nat → Prop) : W31 [.agg #[lst (x_term), .int .i64 (x_value)], .agg #[lst (y_term), .int .i64 (y_value)]] H Bd K = ((sm (GRecord.mk x_term x_value)) ∧ K (.bool (decide ((GRecord.mk x_term x_value) = (GRecord.mk y_term y_value)))) H Bd) := by
  refine propext ⟨fun h => ?_, fun h => ⟨_, _, rfl, h⟩⟩
  obtain ⟨x', y', e, h⟩ := h
  obtain ⟨xterm', xvalue'⟩ := x'
  obtain ⟨yterm', yvalue'⟩ := y'
  simp only [enc_GRecord, List.cons.injEq, Value.agg.injEq, toArr_inj, Value.int.injEq, Value.bool.injEq, Value.string.injEq, Value.slice.injEq, Value.pointer.injEq, Option.some.injEq, Addr.mk.injEq, lst_inj, true_and, and_true] at e
  obtain ⟨⟨rfl, rfl⟩, ⟨rfl, rfl⟩⟩ := e
  exact h
theorem W31_ok : ∀ args H Bd K, W31 args H Bd K → SCalls Try.prog 31 args H Bd K := by
  rintro args H Bd K ⟨x, y, rfl, hpre, hK⟩
  refine fn_pure pok ((Env.base _).add 54 W54 W54_ok) [] _ hK Try.func31 rfl (rs := [.tmp 4]) rfl Try.ntmps31 Try.call31 (by kernel_rfl) (fun ha hb => .bool _) (fun hb ha => ?_)
  simp only [sm_GRecord] at hpre
  simp (maxSteps := 2000000) (disch := first | assumption | (refine asm_intro ?_; assumption) | exact Nat.le_add_right _ _ | exact Nat.le_refl _ | omega | (simp (disch := first | exact Nat.le_add_right _ _ | omega) only [Le_upd hb, Le_rfl, free_T hb]; done) | fail) only [go_sem, push_cast, Nat.reduceAdd, Nat.reduceSub, Nat.reduceMul, Nat.reduceEqDiff, Nat.reduceLeDiff, Int.reduceNeg, Int.reduceAdd, Int.reduceSub, Int.reduceLE, Int.reduceLT, Int.reduceToNat, Nat.reduceLT, ↓reduceIte, reduceCtorEq, false_or, or_false, true_or, or_true, and_pos, ne_eq, not_true_eq_false, not_false_eq_true, Nat.lt_irrefl, eq_self, decide_true, decide_false, Bool.not_true, Bool.not_false, Le_upd hb, free_T hb, hpre]
  first | done | (cases x; cases y; simp only [Cnp, GRecord.mk.injEq]; constructor <;> intros <;> simp_all)
def W30 : Trans := fun args H Bd K => ∃ (xs : List GRecord) (ys : List GRecord), args = [lst (xs), lst (ys), .func (.func 31) #[] #[]] ∧ ((sm xs) ∧ K (.bool (decide (xs = ys))) H Bd)
@[go_sem ↓] theorem W30_eq (xs : List GRecord) (ys : List GRecord) (H : AH) (Bd : Nat) (K : Value → AH → Nat → Prop) : W30 [lst (xs), lst (ys), .func (.func 31) #[] #[]] H Bd K = ((sm xs) ∧ K (.bool (decide (xs = ys))) H Bd) := by
  refine propext ⟨fun h => ?_, fun h => ⟨_, _, rfl, h⟩⟩
  obtain ⟨xs', ys', e, h⟩ := h
  skip
  skip
  simp only [List.cons.injEq, Value.agg.injEq, toArr_inj, Value.int.injEq, Value.bool.injEq, Value.string.injEq, Value.slice.injEq, Value.pointer.injEq, Option.some.injEq, Addr.mk.injEq, lst_inj, true_and, and_true] at e
  obtain ⟨rfl, rfl⟩ := e
  exact h
theorem W30_ok : ∀ args H Bd K, W30 args H Bd K → SCalls Try.prog 30 args H Bd K := by
  rintro args H Bd K ⟨xs, ys, rfl, hpre, hK⟩
  refine fn_pure pok ((Env.base _).add 31 W31 W31_ok) [] _ hK Try.func30 rfl (rs := [.tmp 6]) rfl Try.ntmps30 Try.call30 (by kernel_rfl) (fun ha hb => .bool _) (fun hb ha => ?_)
  have hlen := sm_len hpre
  simp (maxSteps := 2000000) (disch := first | assumption | (refine asm_intro ?_; assumption) | exact Nat.le_add_right _ _ | exact Nat.le_refl _ | omega | (simp (disch := first | exact Nat.le_add_right _ _ | omega) only [Le_upd hb, Le_rfl, free_T hb]; done) | fail) only [go_sem, push_cast, Nat.reduceAdd, Nat.reduceSub, Nat.reduceMul, Nat.reduceEqDiff, Nat.reduceLeDiff, Int.reduceNeg, Int.reduceAdd, Int.reduceSub, Int.reduceLE, Int.reduceLT, Int.reduceToNat, Nat.reduceLT, ↓reduceIte, reduceCtorEq, false_or, or_false, true_or, or_true, and_pos, ne_eq, not_true_eq_false, not_false_eq_true, Nat.lt_irrefl, eq_self, decide_true, decide_false, Bool.not_true, Bool.not_false, Le_upd hb, free_T hb]
  refine Cnp.of (fun hl => ?_) (fun hl => cmp_len (by omega))
  have hl' : xs.length = ys.length := by omega
  refine tr_for (fun i => ∀ j, j < i → xs[j]? = ys[j]?) xs.length (fun i => mkS 32 [(0, lst xs), (1, lst ys), (2, .func (.func 31) #[] #[]), (15, lst xs), (16, .int .i64 xs.length), (17, .int .i64 i)]) (fun j h => by omega) (by simp only [go_sem, push_cast, Nat.reduceAdd, Nat.reduceSub, Nat.reduceMul, Nat.reduceEqDiff, Nat.reduceLeDiff, Int.reduceNeg, Int.reduceAdd, Int.reduceSub, Int.reduceLE, Int.reduceLT, Int.reduceToNat, Nat.reduceLT, ↓reduceIte, reduceCtorEq, false_or, or_false, true_or, or_true, and_pos, ne_eq, not_true_eq_false, not_false_eq_true, Nat.lt_irrefl, eq_self, decide_true, decide_false, Bool.not_true, Bool.not_false]) ?_
  intro i B0 hI hi hB
  refine vq_conv pok (E := ((Env.base _).add 31 W31 W31_ok)) (PL := []) (by kernel_rfl) ?_
  rcases Nat.lt_or_ge i xs.length with hlt | hge
  · have e1 : xs[i]? = some xs[i] := List.getElem?_eq_getElem hlt
    have e2 : ys[i]? = some (ys[i]'(by omega)) := List.getElem?_eq_getElem _
    have hx := sm_mem hpre (List.getElem_mem hlt)
    simp (maxSteps := 2000000) (disch := first | assumption | (refine asm_intro ?_; assumption) | exact Nat.le_add_right _ _ | exact Nat.le_refl _ | omega | (simp (disch := first | exact Nat.le_add_right _ _ | omega) only [Le_upd hb, Le_rfl, free_T hb]; done) | fail) only [go_sem, push_cast, Nat.reduceAdd, Nat.reduceSub, Nat.reduceMul, Nat.reduceEqDiff, Nat.reduceLeDiff, Int.reduceNeg, Int.reduceAdd, Int.reduceSub, Int.reduceLE, Int.reduceLT, Int.reduceToNat, Nat.reduceLT, ↓reduceIte, reduceCtorEq, false_or, or_false, true_or, or_true, and_pos, ne_eq, not_true_eq_false, not_false_eq_true, Nat.lt_irrefl, eq_self, decide_true, decide_false, Bool.not_true, Bool.not_false, Le_upd hb, free_T hb, e1, e2, hx]
    exact cmp_step hl' hI hlt (by omega) rfl fun h => h
  · simp (maxSteps := 2000000) (disch := first | assumption | (refine asm_intro ?_; assumption) | exact Nat.le_add_right _ _ | exact Nat.le_refl _ | omega | (simp (disch := first | exact Nat.le_add_right _ _ | omega) only [Le_upd hb, Le_rfl, free_T hb]; done) | fail) only [go_sem, push_cast, Nat.reduceAdd, Nat.reduceSub, Nat.reduceMul, Nat.reduceEqDiff, Nat.reduceLeDiff, Int.reduceNeg, Int.reduceAdd, Int.reduceSub, Int.reduceLE, Int.reduceLT, Int.reduceToNat, Nat.reduceLT, ↓reduceIte, reduceCtorEq, false_or, or_false, true_or, or_true, and_pos, ne_eq, not_true_eq_false, not_false_eq_true, Nat.lt_irrefl, eq_self, decide_true, decide_false, Bool.not_true, Bool.not_false, Le_upd hb, free_T hb]
    refine vq_conv pok (E := ((Env.base _).add 31 W31 W31_ok)) (PL := []) (by kernel_rfl) ?_
    simp (maxSteps := 2000000) (disch := first | assumption | (refine asm_intro ?_; assumption) | exact Nat.le_add_right _ _ | exact Nat.le_refl _ | omega | (simp (disch := first | exact Nat.le_add_right _ _ | omega) only [Le_upd hb, Le_rfl, free_T hb]; done) | fail) only [go_sem, push_cast, Nat.reduceAdd, Nat.reduceSub, Nat.reduceMul, Nat.reduceEqDiff, Nat.reduceLeDiff, Int.reduceNeg, Int.reduceAdd, Int.reduceSub, Int.reduceLE, Int.reduceLT, Int.reduceToNat, Nat.reduceLT, ↓reduceIte, reduceCtorEq, false_or, or_false, true_or, or_true, and_pos, ne_eq, not_true_eq_false, not_false_eq_true, Nat.lt_irrefl, eq_self, decide_true, decide_false, Bool.not_true, Bool.not_false, Le_upd hb, free_T hb]
    exact cmp_end hl' hI hge
def W13 : Trans := fun args H Bd K => ∃ (xs : List GRecord) (ys : List GRecord), args = [lst (xs), lst (ys)] ∧ ((sm xs) ∧ K (.bool (decide (xs = ys))) H Bd)
@[go_sem ↓] theorem W13_eq (xs : List GRecord) (ys : List GRecord) (H : AH) (Bd : Nat) (K : Value → AH → Nat → Prop) : W13 [lst (xs), lst (ys)] H Bd K = ((sm xs) ∧ K (.bool (decide (xs = ys))) H Bd) := by
  refine propext ⟨fun h => ?_, fun h => ⟨_, _, rfl, h⟩⟩
  obtain ⟨xs', ys', e, h⟩ := h
  skip
  skip
  simp only [List.cons.injEq, Value.agg.injEq, toArr_inj, Value.int.injEq, Value.bool.injEq, Value.string.injEq, Value.slice.injEq, Value.pointer.injEq, Option.some.injEq, Addr.mk.injEq, lst_inj, true_and, and_true] at e
  obtain ⟨rfl, rfl⟩ := e
  exact h
theorem W13_ok : ∀ args H Bd K, W13 args H Bd K → SCalls Try.prog 13 args H Bd K := by
  rintro args H Bd K ⟨xs, ys, rfl, hpre, hK⟩
  refine fn_pure pok ((Env.base _).add 30 W30 W30_ok) [] _ hK Try.func13 rfl (rs := [.tmp 4]) rfl Try.ntmps13 Try.call13 (by kernel_rfl) (fun ha hb => .bool _) (fun hb ha => ?_)
  simp (maxSteps := 2000000) (disch := first | assumption | (refine asm_intro ?_; assumption) | exact Nat.le_add_right _ _ | exact Nat.le_refl _ | omega | (simp (disch := first | exact Nat.le_add_right _ _ | omega) only [Le_upd hb, Le_rfl, free_T hb]; done) | fail) only [go_sem, push_cast, Nat.reduceAdd, Nat.reduceSub, Nat.reduceMul, Nat.reduceEqDiff, Nat.reduceLeDiff, Int.reduceNeg, Int.reduceAdd, Int.reduceSub, Int.reduceLE, Int.reduceLT, Int.reduceToNat, Nat.reduceLT, ↓reduceIte, reduceCtorEq, false_or, or_false, true_or, or_true, and_pos, ne_eq, not_true_eq_false, not_false_eq_true, Nat.lt_irrefl, eq_self, decide_true, decide_false, Bool.not_true, Bool.not_false, Le_upd hb, free_T hb]
  first | done | (simp only [Cnp]; constructor <;> intros <;> simp_all <;> omega)
def W38 : Trans := fun args H Bd K => ∃ (xs : List Int) (ys : List Int), args = [lst (xs), lst (ys)] ∧ ((sm xs) ∧ K (.bool (decide (xs = ys))) H Bd)
@[go_sem ↓] theorem W38_eq (xs : List Int) (ys : List Int) (H : AH) (Bd : Nat) (K : Value → AH → Nat → Prop) : W38 [lst (xs), lst (ys)] H Bd K = ((sm xs) ∧ K (.bool (decide (xs = ys))) H Bd) := by
  refine propext ⟨fun h => ?_, fun h => ⟨_, _, rfl, h⟩⟩
  obtain ⟨xs', ys', e, h⟩ := h
  skip
  skip
  simp only [List.cons.injEq, Value.agg.injEq, toArr_inj, Value.int.injEq, Value.bool.injEq, Value.string.injEq, Value.slice.injEq, Value.pointer.injEq, Option.some.injEq, Addr.mk.injEq, lst_inj, true_and, and_true] at e
  obtain ⟨rfl, rfl⟩ := e
  exact h
theorem W38_ok : ∀ args H Bd K, W38 args H Bd K → SCalls Try.prog 38 args H Bd K := by
  rintro args H Bd K ⟨xs, ys, rfl, hpre, hK⟩
  refine fn_pure pok (Env.base _) [(6, [0,1,2,3,4,5,6,7,8], [⟨0, [], []⟩, ⟨1, [], []⟩, ⟨2, [], []⟩, ⟨3, [], []⟩, ⟨4, [], []⟩, ⟨5, [], []⟩, ⟨6, [], []⟩, ⟨7, [], []⟩, ⟨8, [], []⟩])] _ hK Try.func38 rfl (rs := [.tmp 4]) rfl Try.ntmps38 Try.call38 (by kernel_rfl) (fun ha hb => .bool _) (fun hb ha => ?_)
  have hlen := sm_len hpre
  simp (maxSteps := 2000000) (disch := first | assumption | (refine asm_intro ?_; assumption) | exact Nat.le_add_right _ _ | exact Nat.le_refl _ | omega | (simp (disch := first | exact Nat.le_add_right _ _ | omega) only [Le_upd hb, Le_rfl, free_T hb]; done) | fail) only [go_sem, push_cast, Nat.reduceAdd, Nat.reduceSub, Nat.reduceMul, Nat.reduceEqDiff, Nat.reduceLeDiff, Int.reduceNeg, Int.reduceAdd, Int.reduceSub, Int.reduceLE, Int.reduceLT, Int.reduceToNat, Nat.reduceLT, ↓reduceIte, reduceCtorEq, false_or, or_false, true_or, or_true, and_pos, ne_eq, not_true_eq_false, not_false_eq_true, Nat.lt_irrefl, eq_self, decide_true, decide_false, Bool.not_true, Bool.not_false, Le_upd hb, free_T hb]
  refine Cnp.of (fun hl => ?_) (fun hl => cmp_len (by omega))
  have hl' : xs.length = ys.length := by omega
  refine tr_for (fun i => ∀ j, j < i → xs[j]? = ys[j]?) xs.length (fun i => mkS 26 [(0, lst xs), (1, lst ys), (5, .int .i64 i)]) (fun j h => by omega) (by simp only [go_sem, push_cast, Nat.reduceAdd, Nat.reduceSub, Nat.reduceMul, Nat.reduceEqDiff, Nat.reduceLeDiff, Int.reduceNeg, Int.reduceAdd, Int.reduceSub, Int.reduceLE, Int.reduceLT, Int.reduceToNat, Nat.reduceLT, ↓reduceIte, reduceCtorEq, false_or, or_false, true_or, or_true, and_pos, ne_eq, not_true_eq_false, not_false_eq_true, Nat.lt_irrefl, eq_self, decide_true, decide_false, Bool.not_true, Bool.not_false]) ?_
  intro i B0 hI hi hB
  refine vq_conv pok (E := (Env.base _)) (PL := [(6, [0,1,2,3,4,5,6,7,8], [⟨0, [], []⟩, ⟨1, [], []⟩, ⟨2, [], []⟩, ⟨3, [], []⟩, ⟨4, [], []⟩, ⟨5, [], []⟩, ⟨6, [], []⟩, ⟨7, [], []⟩, ⟨8, [], []⟩])]) (by kernel_rfl) ?_
  rcases Nat.lt_or_ge i xs.length with hlt | hge
  · have e1 : xs[i]? = some xs[i] := List.getElem?_eq_getElem hlt
    have e2 : ys[i]? = some (ys[i]'(by omega)) := List.getElem?_eq_getElem _
    have hx := sm_mem hpre (List.getElem_mem hlt)
    simp (maxSteps := 2000000) (disch := first | assumption | (refine asm_intro ?_; assumption) | exact Nat.le_add_right _ _ | exact Nat.le_refl _ | omega | (simp (disch := first | exact Nat.le_add_right _ _ | omega) only [Le_upd hb, Le_rfl, free_T hb]; done) | fail) only [go_sem, push_cast, Nat.reduceAdd, Nat.reduceSub, Nat.reduceMul, Nat.reduceEqDiff, Nat.reduceLeDiff, Int.reduceNeg, Int.reduceAdd, Int.reduceSub, Int.reduceLE, Int.reduceLT, Int.reduceToNat, Nat.reduceLT, ↓reduceIte, reduceCtorEq, false_or, or_false, true_or, or_true, and_pos, ne_eq, not_true_eq_false, not_false_eq_true, Nat.lt_irrefl, eq_self, decide_true, decide_false, Bool.not_true, Bool.not_false, Le_upd hb, free_T hb, e1, e2, hx]
    exact cmp_step hl' hI hlt (by omega) rfl fun h => h
  · simp (maxSteps := 2000000) (disch := first | assumption | (refine asm_intro ?_; assumption) | exact Nat.le_add_right _ _ | exact Nat.le_refl _ | omega | (simp (disch := first | exact Nat.le_add_right _ _ | omega) only [Le_upd hb, Le_rfl, free_T hb]; done) | fail) only [go_sem, push_cast, Nat.reduceAdd, Nat.reduceSub, Nat.reduceMul, Nat.reduceEqDiff, Nat.reduceLeDiff, Int.reduceNeg, Int.reduceAdd, Int.reduceSub, Int.reduceLE, Int.reduceLT, Int.reduceToNat, Nat.reduceLT, ↓reduceIte, reduceCtorEq, false_or, or_false, true_or, or_true, and_pos, ne_eq, not_true_eq_false, not_false_eq_true, Nat.lt_irrefl, eq_self, decide_true, decide_false, Bool.not_true, Bool.not_false, Le_upd hb, free_T hb]
    refine vq_conv pok (E := (Env.base _)) (PL := [(6, [0,1,2,3,4,5,6,7,8], [⟨0, [], []⟩, ⟨1, [], []⟩, ⟨2, [], []⟩, ⟨3, [], []⟩, ⟨4, [], []⟩, ⟨5, [], []⟩, ⟨6, [], []⟩, ⟨7, [], []⟩, ⟨8, [], []⟩])]) (by kernel_rfl) ?_
    simp (maxSteps := 2000000) (disch := first | assumption | (refine asm_intro ?_; assumption) | exact Nat.le_add_right _ _ | exact Nat.le_refl _ | omega | (simp (disch := first | exact Nat.le_add_right _ _ | omega) only [Le_upd hb, Le_rfl, free_T hb]; done) | fail) only [go_sem, push_cast, Nat.reduceAdd, Nat.reduceSub, Nat.reduceMul, Nat.reduceEqDiff, Nat.reduceLeDiff, Int.reduceNeg, Int.reduceAdd, Int.reduceSub, Int.reduceLE, Int.reduceLT, Int.reduceToNat, Nat.reduceLT, ↓reduceIte, reduceCtorEq, false_or, or_false, true_or, or_true, and_pos, ne_eq, not_true_eq_false, not_false_eq_true, Nat.lt_irrefl, eq_self, decide_true, decide_false, Bool.not_true, Bool.not_false, Le_upd hb, free_T hb]
    exact cmp_end hl' hI hge
def W32 : Trans := fun args H Bd K => ∃ (x : GRecord) (y : GRecord), args = [.agg (enc (x)).toArray, .agg (enc (y)).toArray] ∧ ((sm x) ∧ K (.bool (decide (x = y))) H Bd)
@[go_sem ↓] theorem W32_eq (x_term : List Int) (x_value : Int) (y_term : List Int) (y_value : Int) (H : AH) (Bd : Nat) (K : Value → AH → Nat → Prop) : W32 [.agg #[lst (x_term), .int .i64 (x_value)], .agg #[lst (y_term), .int .i64 (y_value)]] H Bd K = ((sm (GRecord.mk x_term x_value)) ∧ K (.bool (decide ((GRecord.mk x_term x_value) = (GRecord.mk y_term y_value)))) H Bd) := by
  refine propext ⟨fun h => ?_, fun h => ⟨_, _, rfl, h⟩⟩
  obtain ⟨x', y', e, h⟩ := h
  obtain ⟨xterm', xvalue'⟩ := x'
  obtain ⟨yterm', yvalue'⟩ := y'
  simp only [enc_GRecord, List.cons.injEq, Value.agg.injEq, toArr_inj, Value.int.injEq, Value.bool.injEq, Value.string.injEq, Value.slice.injEq, Value.pointer.injEq, Option.some.injEq, Addr.mk.injEq, lst_inj, true_and, and_true] at e
  obtain ⟨⟨rfl, rfl⟩, ⟨rfl, rfl⟩⟩ := e
  exact h
theorem W32_ok : ∀ args H Bd K, W32 args H Bd K → SCalls Try.prog 32 args H Bd K := by
  rintro args H Bd K ⟨x, y, rfl, hpre, hK⟩
  refine fn_pure pok ((Env.base _).add 38 W38 W38_ok) [] _ hK Try.func32 rfl (rs := [.tmp 4]) rfl Try.ntmps32 Try.call32 (by kernel_rfl) (fun ha hb => .bool _) (fun hb ha => ?_)
  simp only [sm_GRecord] at hpre
  simp (maxSteps := 2000000) (disch := first | assumption | (refine asm_intro ?_; assumption) | exact Nat.le_add_right _ _ | exact Nat.le_refl _ | omega | (simp (disch := first | exact Nat.le_add_right _ _ | omega) only [Le_upd hb, Le_rfl, free_T hb]; done) | fail) only [go_sem, push_cast, Nat.reduceAdd, Nat.reduceSub, Nat.reduceMul, Nat.reduceEqDiff, Nat.reduceLeDiff, Int.reduceNeg, Int.reduceAdd, Int.reduceSub, Int.reduceLE, Int.reduceLT, Int.reduceToNat, Nat.reduceLT, ↓reduceIte, reduceCtorEq, false_or, or_false, true_or, or_true, and_pos, ne_eq, not_true_eq_false, not_false_eq_true, Nat.lt_irrefl, eq_self, decide_true, decide_false, Bool.not_true, Bool.not_false, Le_upd hb, free_T hb, hpre]
  cases x; cases y
  simp only [Cnp, GRecord.mk.injEq]
  constructor <;> intros <;> simp_all
def W14 : Trans := fun args H Bd K => ∃ (xs : List GRecord) (ys : List GRecord), args = [lst (xs), lst (ys)] ∧ ((sm xs) ∧ K (.bool (decide (xs = ys))) H Bd)
@[go_sem ↓] theorem W14_eq (xs : List GRecord) (ys : List GRecord) (H : AH) (Bd : Nat) (K : Value → AH → Nat → Prop) : W14 [lst (xs), lst (ys)] H Bd K = ((sm xs) ∧ K (.bool (decide (xs = ys))) H Bd) := by
  refine propext ⟨fun h => ?_, fun h => ⟨_, _, rfl, h⟩⟩
  obtain ⟨xs', ys', e, h⟩ := h
  skip
  skip
  simp only [List.cons.injEq, Value.agg.injEq, toArr_inj, Value.int.injEq, Value.bool.injEq, Value.string.injEq, Value.slice.injEq, Value.pointer.injEq, Option.some.injEq, Addr.mk.injEq, lst_inj, true_and, and_true] at e
  obtain ⟨rfl, rfl⟩ := e
  exact h
theorem W14_ok : ∀ args H Bd K, W14 args H Bd K → SCalls Try.prog 14 args H Bd K := by
  rintro args H Bd K ⟨xs, ys, rfl, hpre, hK⟩
  refine fn_pure pok ((Env.base _).add 32 W32 W32_ok) [(6, [0,1,2,3,4,5,6,7,8,9], [⟨0, [], []⟩, ⟨1, [], []⟩, ⟨2, [], []⟩, ⟨3, [], []⟩, ⟨4, [], []⟩, ⟨5, [], []⟩, ⟨6, [], []⟩, ⟨7, [], []⟩, ⟨8, [], []⟩, ⟨9, [], []⟩])] _ hK Try.func14 rfl (rs := [.tmp 4]) rfl Try.ntmps14 Try.call14 (by kernel_rfl) (fun ha hb => .bool _) (fun hb ha => ?_)
  have hlen := sm_len hpre
  simp (maxSteps := 2000000) (disch := first | assumption | (refine asm_intro ?_; assumption) | exact Nat.le_add_right _ _ | exact Nat.le_refl _ | omega | (simp (disch := first | exact Nat.le_add_right _ _ | omega) only [Le_upd hb, Le_rfl, free_T hb]; done) | fail) only [go_sem, push_cast, Nat.reduceAdd, Nat.reduceSub, Nat.reduceMul, Nat.reduceEqDiff, Nat.reduceLeDiff, Int.reduceNeg, Int.reduceAdd, Int.reduceSub, Int.reduceLE, Int.reduceLT, Int.reduceToNat, Nat.reduceLT, ↓reduceIte, reduceCtorEq, false_or, or_false, true_or, or_true, and_pos, ne_eq, not_true_eq_false, not_false_eq_true, Nat.lt_irrefl, eq_self, decide_true, decide_false, Bool.not_true, Bool.not_false, Le_upd hb, free_T hb]
  refine Cnp.of (fun hl => ?_) (fun hl => cmp_len (by omega))
  have hl' : xs.length = ys.length := by omega
  refine tr_for (fun i => ∀ j, j < i → xs[j]? = ys[j]?) xs.length (fun i => mkS 27 [(0, lst xs), (1, lst ys), (5, .int .i64 i)]) (fun j h => by omega) (by simp only [go_sem, push_cast, Nat.reduceAdd, Nat.reduceSub, Nat.reduceMul, Nat.reduceEqDiff, Nat.reduceLeDiff, Int.reduceNeg, Int.reduceAdd, Int.reduceSub, Int.reduceLE, Int.reduceLT, Int.reduceToNat, Nat.reduceLT, ↓reduceIte, reduceCtorEq, false_or, or_false, true_or, or_true, and_pos, ne_eq, not_true_eq_false, not_false_eq_true, Nat.lt_irrefl, eq_self, decide_true, decide_false, Bool.not_true, Bool.not_false]) ?_
  intro i B0 hI hi hB
  refine vq_conv pok (E := ((Env.base _).add 32 W32 W32_ok)) (PL := [(6, [0,1,2,3,4,5,6,7,8,9], [⟨0, [], []⟩, ⟨1, [], []⟩, ⟨2, [], []⟩, ⟨3, [], []⟩, ⟨4, [], []⟩, ⟨5, [], []⟩, ⟨6, [], []⟩, ⟨7, [], []⟩, ⟨8, [], []⟩, ⟨9, [], []⟩])]) (by kernel_rfl) ?_
  rcases Nat.lt_or_ge i xs.length with hlt | hge
  · have e1 : xs[i]? = some xs[i] := List.getElem?_eq_getElem hlt
    have e2 : ys[i]? = some (ys[i]'(by omega)) := List.getElem?_eq_getElem _
    have hx := sm_mem hpre (List.getElem_mem hlt)
    simp (maxSteps := 2000000) (disch := first | assumption | (refine asm_intro ?_; assumption) | exact Nat.le_add_right _ _ | exact Nat.le_refl _ | omega | (simp (disch := first | exact Nat.le_add_right _ _ | omega) only [Le_upd hb, Le_rfl, free_T hb]; done) | fail) only [go_sem, push_cast, Nat.reduceAdd, Nat.reduceSub, Nat.reduceMul, Nat.reduceEqDiff, Nat.reduceLeDiff, Int.reduceNeg, Int.reduceAdd, Int.reduceSub, Int.reduceLE, Int.reduceLT, Int.reduceToNat, Nat.reduceLT, ↓reduceIte, reduceCtorEq, false_or, or_false, true_or, or_true, and_pos, ne_eq, not_true_eq_false, not_false_eq_true, Nat.lt_irrefl, eq_self, decide_true, decide_false, Bool.not_true, Bool.not_false, Le_upd hb, free_T hb, e1, e2, hx]
    exact cmp_step hl' hI hlt (by omega) rfl fun h => h
  · simp (maxSteps := 2000000) (disch := first | assumption | (refine asm_intro ?_; assumption) | exact Nat.le_add_right _ _ | exact Nat.le_refl _ | omega | (simp (disch := first | exact Nat.le_add_right _ _ | omega) only [Le_upd hb, Le_rfl, free_T hb]; done) | fail) only [go_sem, push_cast, Nat.reduceAdd, Nat.reduceSub, Nat.reduceMul, Nat.reduceEqDiff, Nat.reduceLeDiff, Int.reduceNeg, Int.reduceAdd, Int.reduceSub, Int.reduceLE, Int.reduceLT, Int.reduceToNat, Nat.reduceLT, ↓reduceIte, reduceCtorEq, false_or, or_false, true_or, or_true, and_pos, ne_eq, not_true_eq_false, not_false_eq_true, Nat.lt_irrefl, eq_self, decide_true, decide_false, Bool.not_true, Bool.not_false, Le_upd hb, free_T hb]
    refine vq_conv pok (E := ((Env.base _).add 32 W32 W32_ok)) (PL := [(6, [0,1,2,3,4,5,6,7,8,9], [⟨0, [], []⟩, ⟨1, [], []⟩, ⟨2, [], []⟩, ⟨3, [], []⟩, ⟨4, [], []⟩, ⟨5, [], []⟩, ⟨6, [], []⟩, ⟨7, [], []⟩, ⟨8, [], []⟩, ⟨9, [], []⟩])]) (by kernel_rfl) ?_
    simp (maxSteps := 2000000) (disch := first | assumption | (refine asm_intro ?_; assumption) | exact Nat.le_add_right _ _ | exact Nat.le_refl _ | omega | (simp (disch := first | exact Nat.le_add_right _ _ | omega) only [Le_upd hb, Le_rfl, free_T hb]; done) | fail) only [go_sem, push_cast, Nat.reduceAdd, Nat.reduceSub, Nat.reduceMul, Nat.reduceEqDiff, Nat.reduceLeDiff, Int.reduceNeg, Int.reduceAdd, Int.reduceSub, Int.reduceLE, Int.reduceLT, Int.reduceToNat, Nat.reduceLT, ↓reduceIte, reduceCtorEq, false_or, or_false, true_or, or_true, and_pos, ne_eq, not_true_eq_false, not_false_eq_true, Nat.lt_irrefl, eq_self, decide_true, decide_false, Bool.not_true, Bool.not_false, Le_upd hb, free_T hb]
    exact cmp_end hl' hI hge
def W4 : Trans := fun args H Bd K => ∃ (x : List GRecord) (y : List GRecord), args = [lst (x), lst (y)] ∧ ((sm x ∧ sm y) ∧ K (.bool (true)) H Bd)
@[go_sem ↓] theorem W4_eq (x : List GRecord) (y : List GRecord) (H : AH) (Bd : Nat) (K : Value → AH → Nat → Prop) : W4 [lst (x), lst (y)] H Bd K = ((sm x ∧ sm y) ∧ K (.bool (true)) H Bd) := by
  refine propext ⟨fun h => ?_, fun h => ⟨_, _, rfl, h⟩⟩
  obtain ⟨x', y', e, h⟩ := h
  skip
  skip
  simp only [List.cons.injEq, Value.agg.injEq, toArr_inj, Value.int.injEq, Value.bool.injEq, Value.string.injEq, Value.slice.injEq, Value.pointer.injEq, Option.some.injEq, Addr.mk.injEq, lst_inj, true_and, and_true] at e
  obtain ⟨rfl, rfl⟩ := e
  exact h
theorem W4_ok : ∀ args H Bd K, W4 args H Bd K → SCalls Try.prog 4 args H Bd K := by
  rintro args H Bd K ⟨x, y, rfl, hpre, hK⟩
  refine fn_pure pok ((((((Env.base _).add 10 W10 W10_ok).add 12 W12 W12_ok).add 11 W11 W11_ok).add 13 W13 W13_ok).add 14 W14 W14_ok) [] _ hK Try.func4 rfl (rs := [.tmp 4]) rfl Try.ntmps4 Try.call4 (by kernel_rfl) (fun ha hb => .bool _) (fun hb ha => ?_)
  have hpre2 := hpre
  have z0 := szP_or (tot x) (left := 1048576)
  have z1 := szP_or (tot y) (left := szP (tot x) (1048576))
  simp (maxSteps := 2000000) (disch := first | assumption | (refine asm_intro ?_; assumption) | exact Nat.le_add_right _ _ | exact Nat.le_refl _ | omega | (simp (disch := first | exact Nat.le_add_right _ _ | omega) only [Le_upd hb, Le_rfl, free_T hb]; done) | fail) only [go_sem, push_cast, Nat.reduceAdd, Nat.reduceSub, Nat.reduceMul, Nat.reduceEqDiff, Nat.reduceLeDiff, Int.reduceNeg, Int.reduceAdd, Int.reduceSub, Int.reduceLE, Int.reduceLT, Int.reduceToNat, Nat.reduceLT, ↓reduceIte, reduceCtorEq, false_or, or_false, true_or, or_true, and_pos, ne_eq, not_true_eq_false, not_false_eq_true, Nat.lt_irrefl, eq_self, decide_true, decide_false, Bool.not_true, Bool.not_false, Le_upd hb, free_T hb, hpre]
def W55 : Trans := fun args H Bd K => ∃ (x : GEquation) (left : Int), args = [.agg (enc (x)).toArray, .int .i64 (left)] ∧ ((sm x ∧ 0 ≤ left ∧ left ≤ 1048576) ∧ K (.int .i64 (szP (tot x) left)) H Bd)
@[go_sem ↓] theorem W55_eq (x_left : List Int) (x_right : List Int) (left : Int) (H : AH) (Bd : Nat) (K : Value → AH → Nat → Prop) : W55 [.agg #[lst (x_left), lst (x_right)], .int .i64 (left)] H Bd K = ((sm (GEquation.mk x_left x_right) ∧ 0 ≤ left ∧ left ≤ 1048576) ∧ K (.int .i64 (szP (tot (GEquation.mk x_left x_right)) left)) H Bd) := by
  refine propext ⟨fun h => ?_, fun h => ⟨_, _, rfl, h⟩⟩
  obtain ⟨x', left', e, h⟩ := h
  obtain ⟨xleft', xright'⟩ := x'
  skip
  simp only [enc_GEquation, List.cons.injEq, Value.agg.injEq, toArr_inj, Value.int.injEq, Value.bool.injEq, Value.string.injEq, Value.slice.injEq, Value.pointer.injEq, Option.some.injEq, Addr.mk.injEq, lst_inj, true_and, and_true] at e
  obtain ⟨⟨rfl, rfl⟩, rfl⟩ := e
  exact h
theorem W55_ok : ∀ args H Bd K, W55 args H Bd K → SCalls Try.prog 55 args H Bd K := by
  rintro args H Bd K ⟨x, left, rfl, hpre, hK⟩
  refine fn_pure pok ((Env.base _).add 33 W33 W33_ok) [] _ hK Try.func55 rfl (rs := [.tmp 4]) rfl Try.ntmps55 Try.call55 (by kernel_rfl) (fun ha hb => .int _ _) (fun hb ha => ?_)
  obtain ⟨h1, h2, h3⟩ := hpre
  simp only [sm_GEquation, sm_str] at h1
  have q0 : -1 ≤ left ∧ left ≤ 1048576 := ⟨by omega, h3⟩
  have q1 := szP_bd (tot x.left) (left := left)
  have q2 := szP_bd (tot x.right) (left := szP (tot x.left) (left))
  have ez : tot x = tot x.left + (tot x.right) := by simp [tot_GEquation]
  rw [ez]
  simp (maxSteps := 2000000) (disch := first | assumption | (refine asm_intro ?_; assumption) | exact Nat.le_add_right _ _ | exact Nat.le_refl _ | omega | (simp (disch := first | exact Nat.le_add_right _ _ | omega) only [Le_upd hb, Le_rfl, free_T hb]; done) | fail) only [go_sem, push_cast, Nat.reduceAdd, Nat.reduceSub, Nat.reduceMul, Nat.reduceEqDiff, Nat.reduceLeDiff, Int.reduceNeg, Int.reduceAdd, Int.reduceSub, Int.reduceLE, Int.reduceLT, Int.reduceToNat, Nat.reduceLT, ↓reduceIte, reduceCtorEq, false_or, or_false, true_or, or_true, and_pos, ne_eq, not_true_eq_false, not_false_eq_true, Nat.lt_irrefl, eq_self, decide_true, decide_false, Bool.not_true, Bool.not_false, Le_upd hb, free_T hb, h1]
  refine szP_go (fun e => e.symm) (fun e => ?_)
  rw [e]
  first | exact szP_last | exact szP_lastT
def W34 : Trans := fun args H Bd K => ∃ (xs : List GEquation) (left : Int), args = [lst (xs), .int .i64 (left)] ∧ ((sm xs ∧ 0 ≤ left ∧ left ≤ 1048576) ∧ K (.int .i64 (szP (tot xs) left)) H Bd)
@[go_sem ↓] theorem W34_eq (xs : List GEquation) (left : Int) (H : AH) (Bd : Nat) (K : Value → AH → Nat → Prop) : W34 [lst (xs), .int .i64 (left)] H Bd K = ((sm xs ∧ 0 ≤ left ∧ left ≤ 1048576) ∧ K (.int .i64 (szP (tot xs) left)) H Bd) := by
  refine propext ⟨fun h => ?_, fun h => ⟨_, _, rfl, h⟩⟩
  obtain ⟨xs', left', e, h⟩ := h
  skip
  skip
  simp only [List.cons.injEq, Value.agg.injEq, toArr_inj, Value.int.injEq, Value.bool.injEq, Value.string.injEq, Value.slice.injEq, Value.pointer.injEq, Option.some.injEq, Addr.mk.injEq, lst_inj, true_and, and_true] at e
  obtain ⟨rfl, rfl⟩ := e
  exact h
theorem W34_ok : ∀ args H Bd K, W34 args H Bd K → SCalls Try.prog 34 args H Bd K := by
  rintro args H Bd K ⟨xs, left, rfl, hpre, hK⟩
  refine fn_pure pok ((Env.base _).add 55 W55 W55_ok) [] _ hK Try.func34 rfl (rs := [.tmp 4]) rfl Try.ntmps34 Try.call34 (by kernel_rfl) (fun ha hb => .int _ _) (fun hb ha => ?_)
  obtain ⟨h1, h2, h3⟩ := hpre
  have hlen := sm_len h1
  have e : tot xs = xs.length + (xs.map tot).sum := tot_list xs
  simp (maxSteps := 2000000) (disch := first | assumption | (refine asm_intro ?_; assumption) | exact Nat.le_add_right _ _ | exact Nat.le_refl _ | omega | (simp (disch := first | exact Nat.le_add_right _ _ | omega) only [Le_upd hb, Le_rfl, free_T hb]; done) | fail) only [go_sem, push_cast, Nat.reduceAdd, Nat.reduceSub, Nat.reduceMul, Nat.reduceEqDiff, Nat.reduceLeDiff, Int.reduceNeg, Int.reduceAdd, Int.reduceSub, Int.reduceLE, Int.reduceLT, Int.reduceToNat, Nat.reduceLT, ↓reduceIte, reduceCtorEq, false_or, or_false, true_or, or_true, and_pos, ne_eq, not_true_eq_false, not_false_eq_true, Nat.lt_irrefl, eq_self, decide_true, decide_false, Bool.not_true, Bool.not_false, Le_upd hb, free_T hb]
  refine Cnp.of (fun h => by rw [e, szP_neg h]) (fun h => ?_)
  refine tr_for (fun i => 0 ≤ left - xs.length - totTo xs i) xs.length (fun i => mkS 27 [(0, lst xs), (1, .int .i64 (left - xs.length - totTo xs i)), (5, .int .i64 i)]) (by simp; omega) (by simp only [go_sem, push_cast, Nat.reduceAdd, Nat.reduceSub, Nat.reduceMul, Nat.reduceEqDiff, Nat.reduceLeDiff, Int.reduceNeg, Int.reduceAdd, Int.reduceSub, Int.reduceLE, Int.reduceLT, Int.reduceToNat, Nat.reduceLT, ↓reduceIte, reduceCtorEq, false_or, or_false, true_or, or_true, and_pos, ne_eq, not_true_eq_false, not_false_eq_true, Nat.lt_irrefl, eq_self, decide_true, decide_false, Bool.not_true, Bool.not_false, totTo_zero, Int.sub_zero]) ?_
  intro i B0 hI hi hB
  refine vq_conv pok (E := ((Env.base _).add 55 W55 W55_ok)) (PL := []) (by kernel_rfl) ?_
  rcases Nat.lt_or_ge i xs.length with hlt | hge
  · have e1 : xs[i]? = some xs[i] := List.getElem?_eq_getElem hlt
    have hx := sm_mem h1 (List.getElem_mem hlt)
    have hst := totTo_succ xs hlt
    skip
    simp (maxSteps := 2000000) (disch := first | assumption | (refine asm_intro ?_; assumption) | exact Nat.le_add_right _ _ | exact Nat.le_refl _ | omega | (simp (disch := first | exact Nat.le_add_right _ _ | omega) only [Le_upd hb, Le_rfl, free_T hb]; done) | fail) only [go_sem, push_cast, Nat.reduceAdd, Nat.reduceSub, Nat.reduceMul, Nat.reduceEqDiff, Nat.reduceLeDiff, Int.reduceNeg, Int.reduceAdd, Int.reduceSub, Int.reduceLE, Int.reduceLT, Int.reduceToNat, Nat.reduceLT, ↓reduceIte, reduceCtorEq, false_or, or_false, true_or, or_true, and_pos, ne_eq, not_true_eq_false, not_false_eq_true, Nat.lt_irrefl, eq_self, decide_true, decide_false, Bool.not_true, Bool.not_false, Le_upd hb, free_T hb, e1, hx]
    exact sz_step hlt hI
  · simp (maxSteps := 2000000) (disch := first | assumption | (refine asm_intro ?_; assumption) | exact Nat.le_add_right _ _ | exact Nat.le_refl _ | omega | (simp (disch := first | exact Nat.le_add_right _ _ | omega) only [Le_upd hb, Le_rfl, free_T hb]; done) | fail) only [go_sem, push_cast, Nat.reduceAdd, Nat.reduceSub, Nat.reduceMul, Nat.reduceEqDiff, Nat.reduceLeDiff, Int.reduceNeg, Int.reduceAdd, Int.reduceSub, Int.reduceLE, Int.reduceLT, Int.reduceToNat, Nat.reduceLT, ↓reduceIte, reduceCtorEq, false_or, or_false, true_or, or_true, and_pos, ne_eq, not_true_eq_false, not_false_eq_true, Nat.lt_irrefl, eq_self, decide_true, decide_false, Bool.not_true, Bool.not_false, Le_upd hb, free_T hb]
    refine vq_conv pok (E := ((Env.base _).add 55 W55 W55_ok)) (PL := []) (by kernel_rfl) ?_
    simp (maxSteps := 2000000) (disch := first | assumption | (refine asm_intro ?_; assumption) | exact Nat.le_add_right _ _ | exact Nat.le_refl _ | omega | (simp (disch := first | exact Nat.le_add_right _ _ | omega) only [Le_upd hb, Le_rfl, free_T hb]; done) | fail) only [go_sem, push_cast, Nat.reduceAdd, Nat.reduceSub, Nat.reduceMul, Nat.reduceEqDiff, Nat.reduceLeDiff, Int.reduceNeg, Int.reduceAdd, Int.reduceSub, Int.reduceLE, Int.reduceLT, Int.reduceToNat, Nat.reduceLT, ↓reduceIte, reduceCtorEq, false_or, or_false, true_or, or_true, and_pos, ne_eq, not_true_eq_false, not_false_eq_true, Nat.lt_irrefl, eq_self, decide_true, decide_false, Bool.not_true, Bool.not_false, Le_upd hb, free_T hb]
    exact sz_end hge hI
def W15 : Trans := fun args H Bd K => ∃ (x : GOp) (left : Int), args = [.agg (enc (x)).toArray, .int .i64 (left)] ∧ ((sm x ∧ 0 ≤ left ∧ left ≤ 1048576) ∧ K (.int .i64 (szP (tot x) left)) H Bd)
@[go_sem ↓] theorem W15_eq (x_kind : Int) (x_term : List Int) (x_value : Int) (x_n : Int) (x_order : List Int) (x_equations : List GEquation) (left : Int) (H : AH) (Bd : Nat) (K : Value → AH → Nat → Prop) : W15 [.agg #[.int .i64 (x_kind), lst (x_term), .int .i64 (x_value), .int .i64 (x_n), lst (x_order), lst (x_equations)], .int .i64 (left)] H Bd K = ((sm (GOp.mk x_kind x_term x_value x_n x_order x_equations) ∧ 0 ≤ left ∧ left ≤ 1048576) ∧ K (.int .i64 (szP (tot (GOp.mk x_kind x_term x_value x_n x_order x_equations)) left)) H Bd) := by
  refine propext ⟨fun h => ?_, fun h => ⟨_, _, rfl, h⟩⟩
  obtain ⟨x', left', e, h⟩ := h
  obtain ⟨xkind', xterm', xvalue', xn', xorder', xequations'⟩ := x'
  skip
  simp only [enc_GOp, List.cons.injEq, Value.agg.injEq, toArr_inj, Value.int.injEq, Value.bool.injEq, Value.string.injEq, Value.slice.injEq, Value.pointer.injEq, Option.some.injEq, Addr.mk.injEq, lst_inj, true_and, and_true] at e
  obtain ⟨⟨rfl, rfl, rfl, rfl, rfl, rfl⟩, rfl⟩ := e
  exact h
theorem W15_ok : ∀ args H Bd K, W15 args H Bd K → SCalls Try.prog 15 args H Bd K := by
  rintro args H Bd K ⟨x, left, rfl, hpre, hK⟩
  refine fn_pure pok (((Env.base _).add 33 W33 W33_ok).add 34 W34 W34_ok) [] _ hK Try.func15 rfl (rs := [.tmp 4]) rfl Try.ntmps15 Try.call15 (by kernel_rfl) (fun ha hb => .int _ _) (fun hb ha => ?_)
  obtain ⟨h1, h2, h3⟩ := hpre
  simp only [sm_GOp, sm_str] at h1
  have q0 : -1 ≤ left ∧ left ≤ 1048576 := ⟨by omega, h3⟩
  have q1 := szP_bd (tot x.term) (left := left)
  have q2 := szP_bd (tot x.order) (left := szP (tot x.term) (left))
  have q3 := szP_bd (tot x.equations) (left := szP (tot x.order) (szP (tot x.term) (left)))
  have ez : tot x = tot x.term + (tot x.order + (tot x.equations)) := by simp [tot_GOp]; try omega
  rw [ez]
  simp (maxSteps := 2000000) (disch := first | assumption | (refine asm_intro ?_; assumption) | exact Nat.le_add_right _ _ | exact Nat.le_refl _ | omega | (simp (disch := first | exact Nat.le_add_right _ _ | omega) only [Le_upd hb, Le_rfl, free_T hb]; done) | fail) only [go_sem, push_cast, Nat.reduceAdd, Nat.reduceSub, Nat.reduceMul, Nat.reduceEqDiff, Nat.reduceLeDiff, Int.reduceNeg, Int.reduceAdd, Int.reduceSub, Int.reduceLE, Int.reduceLT, Int.reduceToNat, Nat.reduceLT, ↓reduceIte, reduceCtorEq, false_or, or_false, true_or, or_true, and_pos, ne_eq, not_true_eq_false, not_false_eq_true, Nat.lt_irrefl, eq_self, decide_true, decide_false, Bool.not_true, Bool.not_false, Le_upd hb, free_T hb, h1]
  refine szP_go (fun e => e.symm) (fun e => ?_)
  rw [e]
  refine szP_go (fun e => e.symm) (fun e => ?_)
  rw [e]
  first | exact szP_last | exact szP_lastT
def W56 : Trans := fun args H Bd K => ∃ (x : GEquation), args = [.agg (enc (x)).toArray] ∧ ((sm x ∧ tot x ≤ 1048576) ∧ K (.agg (enc (x)).toArray) H Bd)
@[go_sem ↓] theorem W56_eq (x_left : List Int) (x_right : List Int) (H : AH) (Bd : Nat) (K : Value → AH → Nat → Prop) : W56 [.agg #[lst (x_left), lst (x_right)]] H Bd K = ((sm (GEquation.mk x_left x_right) ∧ tot (GEquation.mk x_left x_right) ≤ 1048576) ∧ K (.agg (enc ((GEquation.mk x_left x_right))).toArray) H Bd) := by
  refine propext ⟨fun h => ?_, fun h => ⟨_, rfl, h⟩⟩
  obtain ⟨x', e, h⟩ := h
  obtain ⟨xleft', xright'⟩ := x'
  simp only [enc_GEquation, List.cons.injEq, Value.agg.injEq, toArr_inj, Value.int.injEq, Value.bool.injEq, Value.string.injEq, Value.slice.injEq, Value.pointer.injEq, Option.some.injEq, Addr.mk.injEq, lst_inj, true_and, and_true] at e
  obtain ⟨rfl, rfl⟩ := e
  exact h
theorem W56_ok : ∀ args H Bd K, W56 args H Bd K → SCalls Try.prog 56 args H Bd K := by
  rintro args H Bd K ⟨x, rfl, hpre, hK⟩
  refine fn_pure pok ((Env.base _).add 36 W36 W36_ok) [] _ hK Try.func56 rfl (rs := [.cell 2 92]) rfl Try.ntmps56 Try.call56 (by kernel_rfl) (fun ha hb => agg_nb _ _) (fun hb ha => ?_)
  obtain ⟨h1, h2⟩ := hpre
  simp only [sm_GEquation] at h1
  simp only [tot_GEquation] at h2
  simp (maxSteps := 2000000) (disch := first | assumption | (refine asm_intro ?_; assumption) | exact Nat.le_add_right _ _ | exact Nat.le_refl _ | omega | (simp (disch := first | exact Nat.le_add_right _ _ | omega) only [Le_upd hb, Le_rfl, free_T hb]; done) | fail) only [go_sem, push_cast, Nat.reduceAdd, Nat.reduceSub, Nat.reduceMul, Nat.reduceEqDiff, Nat.reduceLeDiff, Int.reduceNeg, Int.reduceAdd, Int.reduceSub, Int.reduceLE, Int.reduceLT, Int.reduceToNat, Nat.reduceLT, ↓reduceIte, reduceCtorEq, false_or, or_false, true_or, or_true, and_pos, ne_eq, not_true_eq_false, not_false_eq_true, Nat.lt_irrefl, eq_self, decide_true, decide_false, Bool.not_true, Bool.not_false, Le_upd hb, free_T hb, h1]
def W37 : Trans := fun args H Bd K => ∃ (xs : List GEquation), args = [lst (xs)] ∧ ((sm xs ∧ tot xs ≤ 1048576) ∧ K (lst (xs)) H Bd)
@[go_sem ↓] theorem W37_eq (xs : List GEquation) (H : AH) (Bd : Nat) (K : Value → AH → Nat → Prop) : W37 [lst (xs)] H Bd K = ((sm xs ∧ tot xs ≤ 1048576) ∧ K (lst (xs)) H Bd) := by
  refine propext ⟨fun h => ?_, fun h => ⟨_, rfl, h⟩⟩
  obtain ⟨xs', e, h⟩ := h
  skip
  simp only [List.cons.injEq, Value.agg.injEq, toArr_inj, Value.int.injEq, Value.bool.injEq, Value.string.injEq, Value.slice.injEq, Value.pointer.injEq, Option.some.injEq, Addr.mk.injEq, lst_inj, true_and, and_true] at e
  obtain rfl := e
  exact h
theorem W37_ok : ∀ args H Bd K, W37 args H Bd K → SCalls Try.prog 37 args H Bd K := by
  rintro args H Bd K ⟨xs, rfl, hpre, hK⟩
  refine fn_pure pok ((Env.base _).add 56 W56 W56_ok) [] _ hK Try.func37 rfl (rs := [.tmp 2]) rfl Try.ntmps37 Try.call37 (by kernel_rfl) (fun ha hb => lst_nb _ _) (fun hb ha => ?_)
  obtain ⟨h1, h2⟩ := hpre
  have e : tot xs = xs.length + (xs.map tot).sum := tot_list xs
  simp (maxSteps := 2000000) (disch := first | assumption | (refine asm_intro ?_; assumption) | exact Nat.le_add_right _ _ | exact Nat.le_refl _ | omega | (simp (disch := first | exact Nat.le_add_right _ _ | omega) only [Le_upd hb, Le_rfl, free_T hb]; done) | fail) only [go_sem, push_cast, Nat.reduceAdd, Nat.reduceSub, Nat.reduceMul, Nat.reduceEqDiff, Nat.reduceLeDiff, Int.reduceNeg, Int.reduceAdd, Int.reduceSub, Int.reduceLE, Int.reduceLT, Int.reduceToNat, Nat.reduceLT, ↓reduceIte, reduceCtorEq, false_or, or_false, true_or, or_true, and_pos, ne_eq, not_true_eq_false, not_false_eq_true, Nat.lt_irrefl, eq_self, decide_true, decide_false, Bool.not_true, Bool.not_false, Le_upd hb, free_T hb]
  refine tr_fill (α := GEquation) hb xs (fun i => mkS 23 [(0, lst xs), (3, .slice (some ⟨Bd, 0, some 2⟩) xs.length (xs.length + 1)), (4, .int .i64 i)]) _ (zmake_len _ _) ⟨Nat.le_refl _, by omega⟩ (by simp only [go_sem, push_cast, Nat.reduceAdd, Nat.reduceSub, Nat.reduceMul, Nat.reduceEqDiff, Nat.reduceLeDiff, Int.reduceNeg, Int.reduceAdd, Int.reduceSub, Int.reduceLE, Int.reduceLT, Int.reduceToNat, Nat.reduceLT, ↓reduceIte, reduceCtorEq, false_or, or_false, true_or, or_true, and_pos, ne_eq, not_true_eq_false, not_false_eq_true, Nat.lt_irrefl, eq_self, decide_true, decide_false, Bool.not_true, Bool.not_false]) (Le.refl _) ?_
  intro i L B hi hL hF hB hb'
  refine vq_conv pok (E := ((Env.base _).add 56 W56 W56_ok)) (PL := []) (by kernel_rfl) ?_
  have hL' : L.length = xs.length * 2 := hL
  rcases Nat.lt_or_ge i xs.length with hlt | hge
  · have e1 : xs[i]? = some xs[i] := List.getElem?_eq_getElem hlt
    have hx := sm_mem h1 (List.getElem_mem hlt)
    have hx2 : tot xs[i] ≤ (xs.map tot).sum := tot_mem hlt
    simp (maxSteps := 2000000) (disch := first | assumption | (refine asm_intro ?_; assumption) | exact Nat.le_add_right _ _ | exact Nat.le_refl _ | omega | (simp (disch := first | exact Nat.le_add_right _ _ | omega) only [Le_upd hb, Le_rfl, free_T hb]; done) | fail) only [go_sem, push_cast, Nat.reduceAdd, Nat.reduceSub, Nat.reduceMul, Nat.reduceEqDiff, Nat.reduceLeDiff, Int.reduceNeg, Int.reduceAdd, Int.reduceSub, Int.reduceLE, Int.reduceLT, Int.reduceToNat, Nat.reduceLT, ↓reduceIte, reduceCtorEq, false_or, or_false, true_or, or_true, and_pos, ne_eq, not_true_eq_false, not_false_eq_true, Nat.lt_irrefl, eq_self, decide_true, decide_false, Bool.not_true, Bool.not_false, Le_upd hb, free_T hb, e1, hx]
    exact ⟨_, rfl, Le.refl _⟩
  · simp (maxSteps := 2000000) (disch := first | assumption | (refine asm_intro ?_; assumption) | exact Nat.le_add_right _ _ | exact Nat.le_refl _ | omega | (simp (disch := first | exact Nat.le_add_right _ _ | omega) only [Le_upd hb, Le_rfl, free_T hb]; done) | fail) only [go_sem, push_cast, Nat.reduceAdd, Nat.reduceSub, Nat.reduceMul, Nat.reduceEqDiff, Nat.reduceLeDiff, Int.reduceNeg, Int.reduceAdd, Int.reduceSub, Int.reduceLE, Int.reduceLT, Int.reduceToNat, Nat.reduceLT, ↓reduceIte, reduceCtorEq, false_or, or_false, true_or, or_true, and_pos, ne_eq, not_true_eq_false, not_false_eq_true, Nat.lt_irrefl, eq_self, decide_true, decide_false, Bool.not_true, Bool.not_false, Le_upd hb, free_T hb]
    have hf : L = flat xs := by
      rw [List.take_of_length_le (by rw [hL]; exact Nat.mul_le_mul_right _ hge), List.take_of_length_le hge] at hF
      exact hF
    subst hf
    refine Tr.fin hb 3 (Nat.le_refl Bd) (by simp only [go_sem, push_cast, Nat.reduceAdd, Nat.reduceSub, Nat.reduceMul, Nat.reduceEqDiff, Nat.reduceLeDiff, Int.reduceNeg, Int.reduceAdd, Int.reduceSub, Int.reduceLE, Int.reduceLT, Int.reduceToNat, Nat.reduceLT, ↓reduceIte, reduceCtorEq, false_or, or_false, true_or, or_true, and_pos, ne_eq, not_true_eq_false, not_false_eq_true, Nat.lt_irrefl, eq_self, decide_true, decide_false, Bool.not_true, Bool.not_false]; rfl) rfl ?_
    refine vq_conv pok (E := ((Env.base _).add 56 W56 W56_ok)) (PL := []) (by kernel_rfl) ?_
    simp (maxSteps := 2000000) (disch := first | assumption | (refine asm_intro ?_; assumption) | exact Nat.le_add_right _ _ | exact Nat.le_refl _ | omega | (simp (disch := first | exact Nat.le_add_right _ _ | omega) only [Le_upd hb, Le_rfl, free_T hb]; done) | fail) only [go_sem, push_cast, Nat.reduceAdd, Nat.reduceSub, Nat.reduceMul, Nat.reduceEqDiff, Nat.reduceLeDiff, Int.reduceNeg, Int.reduceAdd, Int.reduceSub, Int.reduceLE, Int.reduceLT, Int.reduceToNat, Nat.reduceLT, ↓reduceIte, reduceCtorEq, false_or, or_false, true_or, or_true, and_pos, ne_eq, not_true_eq_false, not_false_eq_true, Nat.lt_irrefl, eq_self, decide_true, decide_false, Bool.not_true, Bool.not_false, Le_upd hb, free_T hb]
def W17 : Trans := fun args H Bd K => ∃ (x : GOp), args = [.agg (enc (x)).toArray] ∧ ((sm x ∧ tot x ≤ 1048576) ∧ K (.agg (enc (x)).toArray) H Bd)
@[go_sem ↓] theorem W17_eq (x_kind : Int) (x_term : List Int) (x_value : Int) (x_n : Int) (x_order : List Int) (x_equations : List GEquation) (H : AH) (Bd : Nat) (K : Value → AH → Nat → Prop) : W17 [.agg #[.int .i64 (x_kind), lst (x_term), .int .i64 (x_value), .int .i64 (x_n), lst (x_order), lst (x_equations)]] H Bd K = ((sm (GOp.mk x_kind x_term x_value x_n x_order x_equations) ∧ tot (GOp.mk x_kind x_term x_value x_n x_order x_equations) ≤ 1048576) ∧ K (.agg (enc ((GOp.mk x_kind x_term x_value x_n x_order x_equations))).toArray) H Bd) := by
  refine propext ⟨fun h => ?_, fun h => ⟨_, rfl, h⟩⟩
  obtain ⟨x', e, h⟩ := h
  obtain ⟨xkind', xterm', xvalue', xn', xorder', xequations'⟩ := x'
  simp only [enc_GOp, List.cons.injEq, Value.agg.injEq, toArr_inj, Value.int.injEq, Value.bool.injEq, Value.string.injEq, Value.slice.injEq, Value.pointer.injEq, Option.some.injEq, Addr.mk.injEq, lst_inj, true_and, and_true] at e
  obtain ⟨rfl, rfl, rfl, rfl, rfl, rfl⟩ := e
  exact h
theorem W17_ok : ∀ args H Bd K, W17 args H Bd K → SCalls Try.prog 17 args H Bd K := by
  rintro args H Bd K ⟨x, rfl, hpre, hK⟩
  refine fn_pure pok (((Env.base _).add 36 W36 W36_ok).add 37 W37 W37_ok) [] _ hK Try.func17 rfl (rs := [.cell 2 41]) rfl Try.ntmps17 Try.call17 (by kernel_rfl) (fun ha hb => agg_nb _ _) (fun hb ha => ?_)
  obtain ⟨h1, h2⟩ := hpre
  simp only [sm_GOp] at h1
  simp only [tot_GOp] at h2
  simp (maxSteps := 2000000) (disch := first | assumption | (refine asm_intro ?_; assumption) | exact Nat.le_add_right _ _ | exact Nat.le_refl _ | omega | (simp (disch := first | exact Nat.le_add_right _ _ | omega) only [Le_upd hb, Le_rfl, free_T hb]; done) | fail) only [go_sem, push_cast, Nat.reduceAdd, Nat.reduceSub, Nat.reduceMul, Nat.reduceEqDiff, Nat.reduceLeDiff, Int.reduceNeg, Int.reduceAdd, Int.reduceSub, Int.reduceLE, Int.reduceLT, Int.reduceToNat, Nat.reduceLT, ↓reduceIte, reduceCtorEq, false_or, or_false, true_or, or_true, and_pos, ne_eq, not_true_eq_false, not_false_eq_true, Nat.lt_irrefl, eq_self, decide_true, decide_false, Bool.not_true, Bool.not_false, Le_upd hb, free_T hb, h1]
def V35 : Trans := fun args H Bd K => ∃ (x : GOp) (t : Bool) (v : Bool) (m : Bool) (r : Bool), args = [.agg (enc (x)).toArray, .bool (t), .bool (v), .bool (m), .bool (r)] ∧ ((sm x) ∧ K (.bool ((t || decide (x.term.length = 0)) && ((v || decide (x.value = 0)) && ((m || decide (x.n = 0)) && (r || (decide (x.order.length = 0) && decide (x.equations.length = 0))))))) H Bd)
@[go_sem ↓] theorem V35_eq (x_kind : Int) (x_term : List Int) (x_value : Int) (x_n : Int) (x_order : List Int) (x_equations : List GEquation) (t : Bool) (v : Bool) (m : Bool) (r : Bool) (H : AH) (Bd : Nat) (K : Value → AH → Nat → Prop) : V35 [.agg #[.int .i64 (x_kind), lst (x_term), .int .i64 (x_value), .int .i64 (x_n), lst (x_order), lst (x_equations)], .bool (t), .bool (v), .bool (m), .bool (r)] H Bd K = ((sm (GOp.mk x_kind x_term x_value x_n x_order x_equations)) ∧ K (.bool ((t || decide ((GOp.mk x_kind x_term x_value x_n x_order x_equations).term.length = 0)) && ((v || decide ((GOp.mk x_kind x_term x_value x_n x_order x_equations).value = 0)) && ((m || decide ((GOp.mk x_kind x_term x_value x_n x_order x_equations).n = 0)) && (r || (decide ((GOp.mk x_kind x_term x_value x_n x_order x_equations).order.length = 0) && decide ((GOp.mk x_kind x_term x_value x_n x_order x_equations).equations.length = 0))))))) H Bd) := by
  refine propext ⟨fun h => ?_, fun h => ⟨_, _, _, _, _, rfl, h⟩⟩
  obtain ⟨x', t', v', m', r', e, h⟩ := h
  obtain ⟨xkind', xterm', xvalue', xn', xorder', xequations'⟩ := x'
  skip
  skip
  skip
  skip
  simp only [enc_GOp, List.cons.injEq, Value.agg.injEq, toArr_inj, Value.int.injEq, Value.bool.injEq, Value.string.injEq, Value.slice.injEq, Value.pointer.injEq, Option.some.injEq, Addr.mk.injEq, lst_inj, true_and, and_true] at e
  obtain ⟨⟨rfl, rfl, rfl, rfl, rfl, rfl⟩, rfl, rfl, rfl, rfl⟩ := e
  exact h
def W35 : Trans := fun args H Bd K => ∃ (px vt vv vm vr : Value), args = [px, vt, vv, vm, vr] ∧ Yld (cellsAt H 6 px) fun cx => callW V35 [.agg cx.toArray, vt, vv, vm, vr] H Bd K
@[go_sem ↓] theorem W35_eq (px vt vv vm vr : Value) (H : AH) (Bd : Nat) (K : Value → AH → Nat → Prop) : W35 [px, vt, vv, vm, vr] H Bd K = (Yld (cellsAt H 6 px) fun cx => callW V35 [.agg cx.toArray, vt, vv, vm, vr] H Bd K) := by
  refine propext ⟨fun h => ?_, fun h => ⟨_, _, _, _, _, rfl, h⟩⟩
  obtain ⟨px', vt', vv', vm', vr', e, h⟩ := h
  simp only [List.cons.injEq, and_true] at e
  obtain ⟨rfl, rfl, rfl, rfl, rfl⟩ := e
  exact h
set_option maxHeartbeats 4000000 in
theorem W35_ok : ∀ args H Bd K, W35 args H Bd K → SCalls Try.prog 35 args H Bd K := by
  rintro args H Bd K ⟨px, vt, vv, vm, vr, rfl, cx, ex, h⟩
  obtain ⟨x, t, v, m, r, e, hpre, hK⟩ := h
  simp only [List.cons.injEq, and_true] at e
  obtain ⟨Ex, rfl, rfl, rfl, rfl⟩ := e
  obtain rfl := agg_inj Ex
  refine fn_pure pok (Env.base _) [] _ hK Try.func35 rfl (rs := [.tmp 10]) rfl Try.ntmps35 Try.call35 (by kernel_rfl) (fun ha hb => .bool _) (fun hb ha => ?_)
  have Px := cellsAt_out ex (NB.vpok (ha px (by simp)))
  simp only [enc_GOp] at Px
  simp only [sm_GOp] at hpre
  simp (maxSteps := 2000000) (disch := first | assumption | (refine asm_intro ?_; assumption) | exact Nat.le_add_right _ _ | exact Nat.le_refl _ | omega | (simp (disch := first | exact Nat.le_add_right _ _ | omega) only [Le_upd hb, Le_rfl, free_T hb]; done) | fail) only [go_sem, push_cast, Nat.reduceAdd, Nat.reduceSub, Nat.reduceMul, Nat.reduceEqDiff, Nat.reduceLeDiff, Int.reduceNeg, Int.reduceAdd, Int.reduceSub, Int.reduceLE, Int.reduceLT, Int.reduceToNat, Nat.reduceLT, ↓reduceIte, reduceCtorEq, false_or, or_false, true_or, or_true, and_pos, ne_eq, not_true_eq_false, not_false_eq_true, Nat.lt_irrefl, eq_self, decide_true, decide_false, Bool.not_true, Bool.not_false, Le_upd hb, free_T hb, Px.nil, Px.fldL (m := 6) rfl, Px.ldL (m := 6) rfl, Px.ld0L (m := 6) rfl, Px.cellsL (m := 6) rfl, Px.cellsOL (m := 6) rfl, hpre]
  simp only [Cnp]
  constructor <;> intros <;> simp_all

def W16 : Trans := fun args H Bd K => ∃ (x : GOp), args = [.agg (enc (x)).toArray] ∧ ((sm x) ∧ K (.int .i64 (opFault x)) H Bd)
@[go_sem ↓] theorem W16_eq (x_kind : Int) (x_term : List Int) (x_value : Int) (x_n : Int) (x_order : List Int) (x_equations : List GEquation) (H : AH) (Bd : Nat) (K : Value → AH → Nat → Prop) : W16 [.agg #[.int .i64 (x_kind), lst (x_term), .int .i64 (x_value), .int .i64 (x_n), lst (x_order), lst (x_equations)]] H Bd K = ((sm (GOp.mk x_kind x_term x_value x_n x_order x_equations)) ∧ K (.int .i64 (opFault (GOp.mk x_kind x_term x_value x_n x_order x_equations))) H Bd) := by
  refine propext ⟨fun h => ?_, fun h => ⟨_, rfl, h⟩⟩
  obtain ⟨x', e, h⟩ := h
  obtain ⟨xkind', xterm', xvalue', xn', xorder', xequations'⟩ := x'
  simp only [enc_GOp, List.cons.injEq, Value.agg.injEq, toArr_inj, Value.int.injEq, Value.bool.injEq, Value.string.injEq, Value.slice.injEq, Value.pointer.injEq, Option.some.injEq, Addr.mk.injEq, lst_inj, true_and, and_true] at e
  obtain ⟨rfl, rfl, rfl, rfl, rfl, rfl⟩ := e
  exact h
theorem W16_ok : ∀ args H Bd K, W16 args H Bd K → SCalls Try.prog 16 args H Bd K := by
  rintro args H Bd K ⟨x, rfl, hpre, hK⟩
  refine fn_pure pok ((Env.base _).add 35 W35 W35_ok) [] _ hK Try.func16 rfl (rs := [.tmp 2]) rfl Try.ntmps16 Try.call16 (by kernel_rfl) (fun ha hb => .int _ _) (fun hb ha => ?_)
  have hs := hpre
  simp only [sm_GOp] at hpre
  simp (maxSteps := 2000000) (disch := first | assumption | (refine asm_intro ?_; assumption) | exact Nat.le_add_right _ _ | exact Nat.le_refl _ | omega | (simp (disch := first | exact Nat.le_add_right _ _ | omega) only [Le_upd hb, Le_rfl, free_T hb]; done) | fail) only [go_sem, push_cast, Nat.reduceAdd, Nat.reduceSub, Nat.reduceMul, Nat.reduceEqDiff, Nat.reduceLeDiff, Int.reduceNeg, Int.reduceAdd, Int.reduceSub, Int.reduceLE, Int.reduceLT, Int.reduceToNat, Nat.reduceLT, ↓reduceIte, reduceCtorEq, false_or, or_false, true_or, or_true, and_pos, ne_eq, not_true_eq_false, not_false_eq_true, Nat.lt_irrefl, eq_self, decide_true, decide_false, Bool.not_true, Bool.not_false, Le_upd hb, free_T hb, hpre, hs]
  unfold opFault
  simp only [Cnp, Cnd]
  (constructor <;> intros <;> simp_all) <;> grind

def W18 : Trans := fun args H Bd K => ∃ (x : GOp), args = [.agg (enc (x)).toArray] ∧ ((sm x) ∧ K (.int .i64 (opFault x)) H Bd)
@[go_sem ↓] theorem W18_eq (x_kind : Int) (x_term : List Int) (x_value : Int) (x_n : Int) (x_order : List Int) (x_equations : List GEquation) (H : AH) (Bd : Nat) (K : Value → AH → Nat → Prop) : W18 [.agg #[.int .i64 (x_kind), lst (x_term), .int .i64 (x_value), .int .i64 (x_n), lst (x_order), lst (x_equations)]] H Bd K = ((sm (GOp.mk x_kind x_term x_value x_n x_order x_equations)) ∧ K (.int .i64 (opFault (GOp.mk x_kind x_term x_value x_n x_order x_equations))) H Bd) := by
  refine propext ⟨fun h => ?_, fun h => ⟨_, rfl, h⟩⟩
  obtain ⟨x', e, h⟩ := h
  obtain ⟨xkind', xterm', xvalue', xn', xorder', xequations'⟩ := x'
  simp only [enc_GOp, List.cons.injEq, Value.agg.injEq, toArr_inj, Value.int.injEq, Value.bool.injEq, Value.string.injEq, Value.slice.injEq, Value.pointer.injEq, Option.some.injEq, Addr.mk.injEq, lst_inj, true_and, and_true] at e
  obtain ⟨rfl, rfl, rfl, rfl, rfl, rfl⟩ := e
  exact h
set_option maxHeartbeats 4000000 in
theorem W18_ok : ∀ args H Bd K, W18 args H Bd K → SCalls Try.prog 18 args H Bd K := by
  rintro args H Bd K ⟨x, rfl, hpre, hK⟩
  refine fn_pure pok (Env.base _) [(5, [0,1,2,3,4,5,6,7], [⟨0, [], []⟩, ⟨1, [], []⟩, ⟨2, [], []⟩, ⟨3, [], []⟩, ⟨4, [], []⟩, ⟨5, [], [3]⟩, ⟨6, [], []⟩, ⟨7, [], []⟩]), (9, [0,1,2,3,4,5,6,7,8,9,10,11], [⟨0, [], []⟩, ⟨1, [], []⟩, ⟨2, [], []⟩, ⟨3, [], []⟩, ⟨4, [], []⟩, ⟨5, [], []⟩, ⟨6, [], []⟩, ⟨7, [], [5,3]⟩, ⟨8, [], []⟩, ⟨9, [], [5]⟩, ⟨10, [], []⟩, ⟨11, [], []⟩])] _ hK Try.func18 rfl (rs := [.tmp 2]) rfl Try.ntmps18 Try.call18 (by kernel_rfl) (fun ha hb => .int _ _) (fun hb ha => ?_)
  have hs := hpre
  simp only [sm_GOp] at hpre
  simp (maxSteps := 2000000) (disch := first | assumption | (refine asm_intro ?_; assumption) | exact Nat.le_add_right _ _ | exact Nat.le_refl _ | omega | (simp (disch := first | exact Nat.le_add_right _ _ | omega) only [Le_upd hb, Le_rfl, free_T hb]; done) | fail) only [go_sem, push_cast, Nat.reduceAdd, Nat.reduceSub, Nat.reduceMul, Nat.reduceEqDiff, Nat.reduceLeDiff, Int.reduceNeg, Int.reduceAdd, Int.reduceSub, Int.reduceLE, Int.reduceLT, Int.reduceToNat, Nat.reduceLT, ↓reduceIte, reduceCtorEq, false_or, or_false, true_or, or_true, and_pos, ne_eq, not_true_eq_false, not_false_eq_true, Nat.lt_irrefl, eq_self, decide_true, decide_false, Bool.not_true, Bool.not_false, Le_upd hb, free_T hb, hpre, hs]
  unfold opFault
  simp only [Cnp, Cnd]
  (constructor <;> intros <;> simp_all) <;> grind

def W57 : Trans := fun args H Bd K => ∃ (x : GEquation) (y : GEquation), args = [.agg (enc (x)).toArray, .agg (enc (y)).toArray] ∧ ((sm x) ∧ K (.bool (decide (x = y))) H Bd)
@[go_sem ↓] theorem W57_eq (x_left : List Int) (x_right : List Int) (y_left : List Int) (y_right : List Int) (H : AH) (Bd : Nat) (K : Value → AH → Nat → Prop) : W57 [.agg #[lst (x_left), lst (x_right)], .agg #[lst (y_left), lst (y_right)]] H Bd K = ((sm (GEquation.mk x_left x_right)) ∧ K (.bool (decide ((GEquation.mk x_left x_right) = (GEquation.mk y_left y_right)))) H Bd) := by
  refine propext ⟨fun h => ?_, fun h => ⟨_, _, rfl, h⟩⟩
  obtain ⟨x', y', e, h⟩ := h
  obtain ⟨xleft', xright'⟩ := x'
  obtain ⟨yleft', yright'⟩ := y'
  simp only [enc_GEquation, List.cons.injEq, Value.agg.injEq, toArr_inj, Value.int.injEq, Value.bool.injEq, Value.string.injEq, Value.slice.injEq, Value.pointer.injEq, Option.some.injEq, Addr.mk.injEq, lst_inj, true_and, and_true] at e
  obtain ⟨⟨rfl, rfl⟩, ⟨rfl, rfl⟩⟩ := e
  exact h
theorem W57_ok : ∀ args H Bd K, W57 args H Bd K → SCalls Try.prog 57 args H Bd K := by
  rintro args H Bd K ⟨x, y, rfl, hpre, hK⟩
  refine fn_pure pok ((Env.base _).add 38 W38 W38_ok) [] _ hK Try.func57 rfl (rs := [.tmp 4]) rfl Try.ntmps57 Try.call57 (by kernel_rfl) (fun ha hb => .bool _) (fun hb ha => ?_)
  simp only [sm_GEquation] at hpre
  simp (maxSteps := 2000000) (disch := first | assumption | (refine asm_intro ?_; assumption) | exact Nat.le_add_right _ _ | exact Nat.le_refl _ | omega | (simp (disch := first | exact Nat.le_add_right _ _ | omega) only [Le_upd hb, Le_rfl, free_T hb]; done) | fail) only [go_sem, push_cast, Nat.reduceAdd, Nat.reduceSub, Nat.reduceMul, Nat.reduceEqDiff, Nat.reduceLeDiff, Int.reduceNeg, Int.reduceAdd, Int.reduceSub, Int.reduceLE, Int.reduceLT, Int.reduceToNat, Nat.reduceLT, ↓reduceIte, reduceCtorEq, false_or, or_false, true_or, or_true, and_pos, ne_eq, not_true_eq_false, not_false_eq_true, Nat.lt_irrefl, eq_self, decide_true, decide_false, Bool.not_true, Bool.not_false, Le_upd hb, free_T hb, hpre]
  cases x; cases y
  simp only [Cnp, GEquation.mk.injEq]
  constructor <;> intros <;> simp_all

def W39 : Trans := fun args H Bd K => ∃ (xs : List GEquation) (ys : List GEquation), args = [lst (xs), lst (ys)] ∧ ((sm xs) ∧ K (.bool (decide (xs = ys))) H Bd)
@[go_sem ↓] theorem W39_eq (xs : List GEquation) (ys : List GEquation) (H : AH) (Bd : Nat) (K : Value → AH → Nat → Prop) : W39 [lst (xs), lst (ys)] H Bd K = ((sm xs) ∧ K (.bool (decide (xs = ys))) H Bd) := by
  refine propext ⟨fun h => ?_, fun h => ⟨_, _, rfl, h⟩⟩
  obtain ⟨xs', ys', e, h⟩ := h
  skip
  skip
  simp only [List.cons.injEq, Value.agg.injEq, toArr_inj, Value.int.injEq, Value.bool.injEq, Value.string.injEq, Value.slice.injEq, Value.pointer.injEq, Option.some.injEq, Addr.mk.injEq, lst_inj, true_and, and_true] at e
  obtain ⟨rfl, rfl⟩ := e
  exact h
theorem W39_ok : ∀ args H Bd K, W39 args H Bd K → SCalls Try.prog 39 args H Bd K := by
  rintro args H Bd K ⟨xs, ys, rfl, hpre, hK⟩
  refine fn_pure pok ((Env.base _).add 57 W57 W57_ok) [(6, [0,1,2,3,4,5,6,7,8,9], [⟨0, [], []⟩, ⟨1, [], []⟩, ⟨2, [], []⟩, ⟨3, [], []⟩, ⟨4, [], []⟩, ⟨5, [], []⟩, ⟨6, [], []⟩, ⟨7, [], []⟩, ⟨8, [], []⟩, ⟨9, [], []⟩])] _ hK Try.func39 rfl (rs := [.tmp 4]) rfl Try.ntmps39 Try.call39 (by kernel_rfl) (fun ha hb => .bool _) (fun hb ha => ?_)
  have hlen := sm_len hpre
  simp (maxSteps := 2000000) (disch := first | assumption | (refine asm_intro ?_; assumption) | exact Nat.le_add_right _ _ | exact Nat.le_refl _ | omega | (simp (disch := first | exact Nat.le_add_right _ _ | omega) only [Le_upd hb, Le_rfl, free_T hb]; done) | fail) only [go_sem, push_cast, Nat.reduceAdd, Nat.reduceSub, Nat.reduceMul, Nat.reduceEqDiff, Nat.reduceLeDiff, Int.reduceNeg, Int.reduceAdd, Int.reduceSub, Int.reduceLE, Int.reduceLT, Int.reduceToNat, Nat.reduceLT, ↓reduceIte, reduceCtorEq, false_or, or_false, true_or, or_true, and_pos, ne_eq, not_true_eq_false, not_false_eq_true, Nat.lt_irrefl, eq_self, decide_true, decide_false, Bool.not_true, Bool.not_false, Le_upd hb, free_T hb]
  refine Cnp.of (fun hl => ?_) (fun hl => cmp_len (by omega))
  have hl' : xs.length = ys.length := by omega
  refine tr_for (fun i => ∀ j, j < i → xs[j]? = ys[j]?) xs.length (fun i => mkS 27 [(0, lst xs), (1, lst ys), (5, .int .i64 i)]) (fun j h => by omega) (by simp only [go_sem, push_cast, Nat.reduceAdd, Nat.reduceSub, Nat.reduceMul, Nat.reduceEqDiff, Nat.reduceLeDiff, Int.reduceNeg, Int.reduceAdd, Int.reduceSub, Int.reduceLE, Int.reduceLT, Int.reduceToNat, Nat.reduceLT, ↓reduceIte, reduceCtorEq, false_or, or_false, true_or, or_true, and_pos, ne_eq, not_true_eq_false, not_false_eq_true, Nat.lt_irrefl, eq_self, decide_true, decide_false, Bool.not_true, Bool.not_false]) ?_
  intro i B0 hI hi hB
  refine vq_conv pok (E := ((Env.base _).add 57 W57 W57_ok)) (PL := [(6, [0,1,2,3,4,5,6,7,8,9], [⟨0, [], []⟩, ⟨1, [], []⟩, ⟨2, [], []⟩, ⟨3, [], []⟩, ⟨4, [], []⟩, ⟨5, [], []⟩, ⟨6, [], []⟩, ⟨7, [], []⟩, ⟨8, [], []⟩, ⟨9, [], []⟩])]) (by kernel_rfl) ?_
  rcases Nat.lt_or_ge i xs.length with hlt | hge
  · have e1 : xs[i]? = some xs[i] := List.getElem?_eq_getElem hlt
    have e2 : ys[i]? = some (ys[i]'(by omega)) := List.getElem?_eq_getElem _
    have hx := sm_mem hpre (List.getElem_mem hlt)
    simp (maxSteps := 2000000) (disch := first | assumption | (refine asm_intro ?_; assumption) | exact Nat.le_add_right _ _ | exact Nat.le_refl _ | omega | (simp (disch := first | exact Nat.le_add_right _ _ | omega) only [Le_upd hb, Le_rfl, free_T hb]; done) | fail) only [go_sem, push_cast, Nat.reduceAdd, Nat.reduceSub, Nat.reduceMul, Nat.reduceEqDiff, Nat.reduceLeDiff, Int.reduceNeg, Int.reduceAdd, Int.reduceSub, Int.reduceLE, Int.reduceLT, Int.reduceToNat, Nat.reduceLT, ↓reduceIte, reduceCtorEq, false_or, or_false, true_or, or_true, and_pos, ne_eq, not_true_eq_false, not_false_eq_true, Nat.lt_irrefl, eq_self, decide_true, decide_false, Bool.not_true, Bool.not_false, Le_upd hb, free_T hb, e1, e2, hx]
    exact cmp_step hl' hI hlt (by omega) rfl fun h => h
  · simp (maxSteps := 2000000) (disch := first | assumption | (refine asm_intro ?_; assumption) | exact Nat.le_add_right _ _ | exact Nat.le_refl _ | omega | (simp (disch := first | exact Nat.le_add_right _ _ | omega) only [Le_upd hb, Le_rfl, free_T hb]; done) | fail) only [go_sem, push_cast, Nat.reduceAdd, Nat.reduceSub, Nat.reduceMul, Nat.reduceEqDiff, Nat.reduceLeDiff, Int.reduceNeg, Int.reduceAdd, Int.reduceSub, Int.reduceLE, Int.reduceLT, Int.reduceToNat, Nat.reduceLT, ↓reduceIte, reduceCtorEq, false_or, or_false, true_or, or_true, and_pos, ne_eq, not_true_eq_false, not_false_eq_true, Nat.lt_irrefl, eq_self, decide_true, decide_false, Bool.not_true, Bool.not_false, Le_upd hb, free_T hb]
    refine vq_conv pok (E := ((Env.base _).add 57 W57 W57_ok)) (PL := [(6, [0,1,2,3,4,5,6,7,8,9], [⟨0, [], []⟩, ⟨1, [], []⟩, ⟨2, [], []⟩, ⟨3, [], []⟩, ⟨4, [], []⟩, ⟨5, [], []⟩, ⟨6, [], []⟩, ⟨7, [], []⟩, ⟨8, [], []⟩, ⟨9, [], []⟩])]) (by kernel_rfl) ?_
    simp (maxSteps := 2000000) (disch := first | assumption | (refine asm_intro ?_; assumption) | exact Nat.le_add_right _ _ | exact Nat.le_refl _ | omega | (simp (disch := first | exact Nat.le_add_right _ _ | omega) only [Le_upd hb, Le_rfl, free_T hb]; done) | fail) only [go_sem, push_cast, Nat.reduceAdd, Nat.reduceSub, Nat.reduceMul, Nat.reduceEqDiff, Nat.reduceLeDiff, Int.reduceNeg, Int.reduceAdd, Int.reduceSub, Int.reduceLE, Int.reduceLT, Int.reduceToNat, Nat.reduceLT, ↓reduceIte, reduceCtorEq, false_or, or_false, true_or, or_true, and_pos, ne_eq, not_true_eq_false, not_false_eq_true, Nat.lt_irrefl, eq_self, decide_true, decide_false, Bool.not_true, Bool.not_false, Le_upd hb, free_T hb]
    exact cmp_end hl' hI hge

def W19 : Trans := fun args H Bd K => ∃ (x : GOp) (y : GOp), args = [.agg (enc (x)).toArray, .agg (enc (y)).toArray] ∧ ((sm x) ∧ K (.bool (decide (x = y))) H Bd)
@[go_sem ↓] theorem W19_eq (x_kind : Int) (x_term : List Int) (x_value : Int) (x_n : Int) (x_order : List Int) (x_equations : List GEquation) (y_kind : Int) (y_term : List Int) (y_value : Int) (y_n : Int) (y_order : List Int) (y_equations : List GEquation) (H : AH) (Bd : Nat) (K : Value → AH → Nat → Prop) : W19 [.agg #[.int .i64 (x_kind), lst (x_term), .int .i64 (x_value), .int .i64 (x_n), lst (x_order), lst (x_equations)], .agg #[.int .i64 (y_kind), lst (y_term), .int .i64 (y_value), .int .i64 (y_n), lst (y_order), lst (y_equations)]] H Bd K = ((sm (GOp.mk x_kind x_term x_value x_n x_order x_equations)) ∧ K (.bool (decide ((GOp.mk x_kind x_term x_value x_n x_order x_equations) = (GOp.mk y_kind y_term y_value y_n y_order y_equations)))) H Bd) := by
  refine propext ⟨fun h => ?_, fun h => ⟨_, _, rfl, h⟩⟩
  obtain ⟨x', y', e, h⟩ := h
  obtain ⟨xkind', xterm', xvalue', xn', xorder', xequations'⟩ := x'
  obtain ⟨ykind', yterm', yvalue', yn', yorder', yequations'⟩ := y'
  simp only [enc_GOp, List.cons.injEq, Value.agg.injEq, toArr_inj, Value.int.injEq, Value.bool.injEq, Value.string.injEq, Value.slice.injEq, Value.pointer.injEq, Option.some.injEq, Addr.mk.injEq, lst_inj, true_and, and_true] at e
  obtain ⟨⟨rfl, rfl, rfl, rfl, rfl, rfl⟩, ⟨rfl, rfl, rfl, rfl, rfl, rfl⟩⟩ := e
  exact h
theorem W19_ok : ∀ args H Bd K, W19 args H Bd K → SCalls Try.prog 19 args H Bd K := by
  rintro args H Bd K ⟨x, y, rfl, hpre, hK⟩
  refine fn_pure pok (((Env.base _).add 38 W38 W38_ok).add 39 W39 W39_ok) [] _ hK Try.func19 rfl (rs := [.tmp 4]) rfl Try.ntmps19 Try.call19 (by kernel_rfl) (fun ha hb => .bool _) (fun hb ha => ?_)
  simp only [sm_GOp] at hpre
  simp (maxSteps := 2000000) (disch := first | assumption | (refine asm_intro ?_; assumption) | exact Nat.le_add_right _ _ | exact Nat.le_refl _ | omega | (simp (disch := first | exact Nat.le_add_right _ _ | omega) only [Le_upd hb, Le_rfl, free_T hb]; done) | fail) only [go_sem, push_cast, Nat.reduceAdd, Nat.reduceSub, Nat.reduceMul, Nat.reduceEqDiff, Nat.reduceLeDiff, Int.reduceNeg, Int.reduceAdd, Int.reduceSub, Int.reduceLE, Int.reduceLT, Int.reduceToNat, Nat.reduceLT, ↓reduceIte, reduceCtorEq, false_or, or_false, true_or, or_true, and_pos, ne_eq, not_true_eq_false, not_false_eq_true, Nat.lt_irrefl, eq_self, decide_true, decide_false, Bool.not_true, Bool.not_false, Le_upd hb, free_T hb, hpre]
  cases x; cases y
  simp only [Cnp, GOp.mk.injEq]
  constructor <;> intros <;> simp_all

def W5 : Trans := fun args H Bd K => ∃ (x : GOp), args = [.agg (enc (x)).toArray] ∧ ((sm x) ∧ K (.bool (true)) H Bd)
@[go_sem ↓] theorem W5_eq (x_kind : Int) (x_term : List Int) (x_value : Int) (x_n : Int) (x_order : List Int) (x_equations : List GEquation) (H : AH) (Bd : Nat) (K : Value → AH → Nat → Prop) : W5 [.agg #[.int .i64 (x_kind), lst (x_term), .int .i64 (x_value), .int .i64 (x_n), lst (x_order), lst (x_equations)]] H Bd K = ((sm (GOp.mk x_kind x_term x_value x_n x_order x_equations)) ∧ K (.bool (true)) H Bd) := by
  refine propext ⟨fun h => ?_, fun h => ⟨_, rfl, h⟩⟩
  obtain ⟨x', e, h⟩ := h
  obtain ⟨xkind', xterm', xvalue', xn', xorder', xequations'⟩ := x'
  simp only [enc_GOp, List.cons.injEq, Value.agg.injEq, toArr_inj, Value.int.injEq, Value.bool.injEq, Value.string.injEq, Value.slice.injEq, Value.pointer.injEq, Option.some.injEq, Addr.mk.injEq, lst_inj, true_and, and_true] at e
  obtain ⟨rfl, rfl, rfl, rfl, rfl, rfl⟩ := e
  exact h
theorem W5_ok : ∀ args H Bd K, W5 args H Bd K → SCalls Try.prog 5 args H Bd K := by
  rintro args H Bd K ⟨x, rfl, hpre, hK⟩
  refine fn_pure pok ((((((Env.base _).add 15 W15 W15_ok).add 17 W17 W17_ok).add 16 W16 W16_ok).add 18 W18 W18_ok).add 19 W19 W19_ok) [(10, [0,1,2,3,4], [⟨0, [], []⟩, ⟨1, [], []⟩, ⟨2, [], [0]⟩, ⟨3, [], []⟩, ⟨4, [], []⟩])] _ hK Try.func5 rfl (rs := [.tmp 2]) rfl Try.ntmps5 Try.call5 (by kernel_rfl) (fun ha hb => .bool _) (fun hb ha => ?_)
  have hpre2 := hpre
  have z0 := szP_or (tot x) (left := 1048576)
  simp (maxSteps := 2000000) (disch := first | assumption | (refine asm_intro ?_; assumption) | exact Nat.le_add_right _ _ | exact Nat.le_refl _ | omega | (simp (disch := first | exact Nat.le_add_right _ _ | omega) only [Le_upd hb, Le_rfl, free_T hb]; done) | fail) only [go_sem, push_cast, Nat.reduceAdd, Nat.reduceSub, Nat.reduceMul, Nat.reduceEqDiff, Nat.reduceLeDiff, Int.reduceNeg, Int.reduceAdd, Int.reduceSub, Int.reduceLE, Int.reduceLT, Int.reduceToNat, Nat.reduceLT, ↓reduceIte, reduceCtorEq, false_or, or_false, true_or, or_true, and_pos, ne_eq, not_true_eq_false, not_false_eq_true, Nat.lt_irrefl, eq_self, decide_true, decide_false, Bool.not_true, Bool.not_false, Le_upd hb, free_T hb, hpre]

def W64 : Trans := fun args H Bd K => ∃ (x : GSymbol) (left : Int), args = [.agg (enc (x)).toArray, .int .i64 (left)] ∧ ((sm x ∧ 0 ≤ left ∧ left ≤ 1048576) ∧ K (.int .i64 (szP (tot x) left)) H Bd)
@[go_sem ↓] theorem W64_eq (x_name : ByteArray) (x_arity : Int) (left : Int) (H : AH) (Bd : Nat) (K : Value → AH → Nat → Prop) : W64 [.agg #[.string (x_name), .int .i64 (x_arity)], .int .i64 (left)] H Bd K = ((sm (GSymbol.mk x_name x_arity) ∧ 0 ≤ left ∧ left ≤ 1048576) ∧ K (.int .i64 (szP (tot (GSymbol.mk x_name x_arity)) left)) H Bd) := by
  refine propext ⟨fun h => ?_, fun h => ⟨_, _, rfl, h⟩⟩
  obtain ⟨x', left', e, h⟩ := h
  obtain ⟨xname', xarity'⟩ := x'
  skip
  simp only [enc_GSymbol, List.cons.injEq, Value.agg.injEq, toArr_inj, Value.int.injEq, Value.bool.injEq, Value.string.injEq, Value.slice.injEq, Value.pointer.injEq, Option.some.injEq, Addr.mk.injEq, lst_inj, true_and, and_true] at e
  obtain ⟨⟨rfl, rfl⟩, rfl⟩ := e
  exact h
theorem W64_ok : ∀ args H Bd K, W64 args H Bd K → SCalls Try.prog 64 args H Bd K := by
  rintro args H Bd K ⟨x, left, rfl, hpre, hK⟩
  refine fn_pure pok (Env.base _) [] _ hK Try.func64 rfl (rs := [.tmp 4]) rfl Try.ntmps64 Try.call64 (by kernel_rfl) (fun ha hb => .int _ _) (fun hb ha => ?_)
  obtain ⟨h1, h2, h3⟩ := hpre
  simp only [sm_GSymbol, sm_str] at h1
  have q0 : -1 ≤ left ∧ left ≤ 1048576 := ⟨by omega, h3⟩
  have z0 : tot x.name = x.name.size := rfl
  have ez : tot x = tot x.name := by simp [tot_GSymbol]
  rw [ez]
  simp (maxSteps := 2000000) (disch := first | assumption | (refine asm_intro ?_; assumption) | exact Nat.le_add_right _ _ | exact Nat.le_refl _ | omega | (simp (disch := first | exact Nat.le_add_right _ _ | omega) only [Le_upd hb, Le_rfl, free_T hb]; done) | fail) only [go_sem, push_cast, Nat.reduceAdd, Nat.reduceSub, Nat.reduceMul, Nat.reduceEqDiff, Nat.reduceLeDiff, Int.reduceNeg, Int.reduceAdd, Int.reduceSub, Int.reduceLE, Int.reduceLT, Int.reduceToNat, Nat.reduceLT, ↓reduceIte, reduceCtorEq, false_or, or_false, true_or, or_true, and_pos, ne_eq, not_true_eq_false, not_false_eq_true, Nat.lt_irrefl, eq_self, decide_true, decide_false, Bool.not_true, Bool.not_false, Le_upd hb, free_T hb, h1]
  rw [← z0]
  exact szP_lastI

end Go.Proofs.Ytkojciapfghibaa
