/- YtkojciapfghibaaDoorA1 -/
import Derived.Test.YtkojciapfghibaaDoorLib
set_option linter.unusedSimpArgs false
set_option linter.unusedVariables false
set_option maxRecDepth 20000
namespace Go.Proofs.YtkojciapfghibaaDoor
open Go Go.SC
def W35 : Trans := fun args H Bd K => ∃ (x : GSymbol) (left : Int), args = [.agg (enc (x)).toArray, .int .i64 (left)] ∧ ((sm x ∧ 0 ≤ left ∧ left ≤ 1048576) ∧ K (.int .i64 (szP (tot x) left)) H Bd)
@[go_sem ↓] theorem W35_eq (x_name : ByteArray) (x_arity : Int) (left : Int) (H : AH) (Bd : Nat) (K : Value → AH → Nat → Prop) : W35 [.agg #[.string (x_name), .int .i64 (x_arity)], .int .i64 (left)] H Bd K = ((sm (GSymbol.mk x_name x_arity) ∧ 0 ≤ left ∧ left ≤ 1048576) ∧ K (.int .i64 (szP (tot (GSymbol.mk x_name x_arity)) left)) H Bd) := by
  refine propext ⟨fun h => ?_, fun h => ⟨_, _, rfl, h⟩⟩
  obtain ⟨x', left', e, h⟩ := h
  obtain ⟨xname', xarity'⟩ := x'
  skip
  simp only [enc_GSymbol, List.cons.injEq, Value.agg.injEq, toArr_inj, Value.int.injEq, Value.bool.injEq, Value.string.injEq, Value.slice.injEq, Value.pointer.injEq, Option.some.injEq, Addr.mk.injEq, lst_inj, true_and, and_true] at e
  obtain ⟨⟨rfl, rfl⟩, rfl⟩ := e
  exact h
theorem W35_ok : OK 35 W35 := by
  rintro args H Bd K ⟨x, left, rfl, hpre, hK⟩
  refine fn_pure pok (Env.base _) [] _ hK Tryd.func35 rfl (rs := [.tmp 4]) rfl Tryd.ntmps35 (by simp) Tryd.call35 (by kernel_rfl) (fun ha hb => .int _ _) (fun hb ha => ?_)
  obtain ⟨h1, h2, h3⟩ := hpre
  simp only [sm_GSymbol, sm_str] at h1
  have q0 := h3
  have z0 : tot x.name = x.name.size := rfl
  have ez : tot x = tot x.name := by simp [tot_GSymbol]
  rw [ez]
  simp (maxSteps := 2000000) (disch := first | assumption | (refine asm_intro ?_; assumption) | exact Nat.le_add_right _ _ | exact Nat.le_refl _ | omega | (simp (disch := first | exact Nat.le_add_right _ _ | omega) only [Le_upd hb, Le_rfl, free_T hb, free_upd]; done) | fail) only [go_sem, push_cast, and_pos, Le_updF, Le_upd hb, free_T hb, h1]
  rw [← z0]
  exact szP_lastI
def W23 : Trans := fun args H Bd K => ∃ (xs : List GSymbol) (left : Int), args = [lst (xs), .int .i64 (left)] ∧ ((sm xs ∧ 0 ≤ left ∧ left ≤ 1048576) ∧ K (.int .i64 (szP (tot xs) left)) H Bd)
@[go_sem ↓] theorem W23_eq (xs : List GSymbol) (left : Int) (H : AH) (Bd : Nat) (K : Value → AH → Nat → Prop) : W23 [lst (xs), .int .i64 (left)] H Bd K = ((sm xs ∧ 0 ≤ left ∧ left ≤ 1048576) ∧ K (.int .i64 (szP (tot xs) left)) H Bd) := by
  refine propext ⟨fun h => ?_, fun h => ⟨_, _, rfl, h⟩⟩
  obtain ⟨xs', left', e, h⟩ := h
  skip
  skip
  simp only [List.cons.injEq, Value.agg.injEq, toArr_inj, Value.int.injEq, Value.bool.injEq, Value.string.injEq, Value.slice.injEq, Value.pointer.injEq, Option.some.injEq, Addr.mk.injEq, lst_inj, true_and, and_true] at e
  obtain ⟨rfl, rfl⟩ := e
  exact h
theorem W23_ok : OK 23 W23 := by
  rintro args H Bd K ⟨xs, left, rfl, hpre, hK⟩
  refine fn_pure pok ((Env.base _).add 35 _ W35_ok) [] _ hK Tryd.func23 rfl (rs := [.tmp 4]) rfl Tryd.ntmps23 (by simp) Tryd.call23 (by kernel_rfl) (fun ha hb => .int _ _) (fun hb ha => ?_)
  obtain ⟨h1, h2, h3⟩ := hpre
  have hlen := sm_len h1
  have e : tot xs = xs.length + (xs.map tot).sum := tot_list xs
  simp (maxSteps := 2000000) (disch := first | assumption | (refine asm_intro ?_; assumption) | exact Nat.le_add_right _ _ | exact Nat.le_refl _ | omega | (simp (disch := first | exact Nat.le_add_right _ _ | omega) only [Le_upd hb, Le_rfl, free_T hb, free_upd]; done) | fail) only [go_sem, push_cast, and_pos, Le_updF, Le_upd hb, free_T hb]
  refine Cnp.of (fun h => by rw [e, szP_neg h]) (fun h => ?_)
  refine tr_for (fun i => 0 ≤ left - xs.length - totTo xs i) xs.length (fun i => [(0, lst xs), (1, .int .i64 (left - xs.length - totTo xs i)), (5, .int .i64 i)]) (by simp; omega) (by simp only [go_sem, push_cast, and_pos, Le_updF, totTo_zero, Int.sub_zero]) ?_
  intro i B0 hI hi hB
  refine vq_conv pok (E := ((Env.base _).add 35 _ W35_ok)) (PL := []) (by kernel_rfl) ?_
  rcases Nat.lt_or_ge i xs.length with hlt | hge
  · have e1 : xs[i]? = some xs[i] := List.getElem?_eq_getElem hlt
    have hx := sm_mem h1 (List.getElem_mem hlt)
    have hst := totTo_succ xs hlt
    skip
    simp (maxSteps := 2000000) (disch := first | assumption | (refine asm_intro ?_; assumption) | exact Nat.le_add_right _ _ | exact Nat.le_refl _ | omega | (simp (disch := first | exact Nat.le_add_right _ _ | omega) only [Le_upd hb, Le_rfl, free_T hb, free_upd]; done) | fail) only [go_sem, push_cast, and_pos, Le_updF, Le_upd hb, free_T hb, e1, hx]
    exact sz_step hlt hI
  · simp (maxSteps := 2000000) (disch := first | assumption | (refine asm_intro ?_; assumption) | exact Nat.le_add_right _ _ | exact Nat.le_refl _ | omega | (simp (disch := first | exact Nat.le_add_right _ _ | omega) only [Le_upd hb, Le_rfl, free_T hb, free_upd]; done) | fail) only [go_sem, push_cast, and_pos, Le_updF, Le_upd hb, free_T hb]
    refine vq_conv pok (E := ((Env.base _).add 35 _ W35_ok)) (PL := []) (by kernel_rfl) ?_
    simp (maxSteps := 2000000) (disch := first | assumption | (refine asm_intro ?_; assumption) | exact Nat.le_add_right _ _ | exact Nat.le_refl _ | omega | (simp (disch := first | exact Nat.le_add_right _ _ | omega) only [Le_upd hb, Le_rfl, free_T hb, free_upd]; done) | fail) only [go_sem, push_cast, and_pos, Le_updF, Le_upd hb, free_T hb]
    exact sz_end hge hI
def W10 : Trans := fun args H Bd K => ∃ (x : GSignature) (left : Int), args = [.agg (enc (x)).toArray, .int .i64 (left)] ∧ ((sm x ∧ 0 ≤ left ∧ left ≤ 1048576) ∧ K (.int .i64 (szP (tot x) left)) H Bd)
@[go_sem ↓] theorem W10_eq (x_symbols : List GSymbol) (left : Int) (H : AH) (Bd : Nat) (K : Value → AH → Nat → Prop) : W10 [.agg #[lst (x_symbols)], .int .i64 (left)] H Bd K = ((sm (GSignature.mk x_symbols) ∧ 0 ≤ left ∧ left ≤ 1048576) ∧ K (.int .i64 (szP (tot (GSignature.mk x_symbols)) left)) H Bd) := by
  refine propext ⟨fun h => ?_, fun h => ⟨_, _, rfl, h⟩⟩
  obtain ⟨x', left', e, h⟩ := h
  obtain ⟨xsymbols'⟩ := x'
  skip
  simp only [enc_GSignature, List.cons.injEq, Value.agg.injEq, toArr_inj, Value.int.injEq, Value.bool.injEq, Value.string.injEq, Value.slice.injEq, Value.pointer.injEq, Option.some.injEq, Addr.mk.injEq, lst_inj, true_and, and_true] at e
  obtain ⟨rfl, rfl⟩ := e
  exact h
theorem W10_ok : OK 10 W10 := by
  rintro args H Bd K ⟨x, left, rfl, hpre, hK⟩
  refine fn_pure pok ((Env.base _).add 23 _ W23_ok) [] _ hK Tryd.func10 rfl (rs := [.tmp 4]) rfl Tryd.ntmps10 (by simp) Tryd.call10 (by kernel_rfl) (fun ha hb => .int _ _) (fun hb ha => ?_)
  obtain ⟨h1, h2, h3⟩ := hpre
  simp only [sm_GSignature, sm_str] at h1
  have q0 := h3
  have q1 := szP_ub (tot x.symbols) (left := left) (by omega)
  have ez : tot x = tot x.symbols := by simp [tot_GSignature]
  rw [ez]
  simp (maxSteps := 2000000) (disch := first | assumption | (refine asm_intro ?_; assumption) | exact Nat.le_add_right _ _ | exact Nat.le_refl _ | omega | (simp (disch := first | exact Nat.le_add_right _ _ | omega) only [Le_upd hb, Le_rfl, free_T hb, free_upd]; done) | fail) only [go_sem, push_cast, and_pos, Le_updF, Le_upd hb, free_T hb, h1]
  first | exact szP_last | exact szP_lastT
def W38 : Trans := fun args H Bd K => ∃ (x : GSymbol), args = [.agg (enc (x)).toArray] ∧ ((sm x ∧ tot x ≤ 1048576) ∧ K (.agg (enc (x)).toArray) H Bd)
@[go_sem ↓] theorem W38_eq (x_name : ByteArray) (x_arity : Int) (H : AH) (Bd : Nat) (K : Value → AH → Nat → Prop) : W38 [.agg #[.string (x_name), .int .i64 (x_arity)]] H Bd K = ((sm (GSymbol.mk x_name x_arity) ∧ tot (GSymbol.mk x_name x_arity) ≤ 1048576) ∧ K (.agg (enc ((GSymbol.mk x_name x_arity))).toArray) H Bd) := by
  refine propext ⟨fun h => ?_, fun h => ⟨_, rfl, h⟩⟩
  obtain ⟨x', e, h⟩ := h
  obtain ⟨xname', xarity'⟩ := x'
  simp only [enc_GSymbol, List.cons.injEq, Value.agg.injEq, toArr_inj, Value.int.injEq, Value.bool.injEq, Value.string.injEq, Value.slice.injEq, Value.pointer.injEq, Option.some.injEq, Addr.mk.injEq, lst_inj, true_and, and_true] at e
  obtain ⟨rfl, rfl⟩ := e
  exact h
theorem W38_ok : OK 38 W38 := by
  rintro args H Bd K ⟨x, rfl, hpre, hK⟩
  refine fn_pure pok (Env.base _) [] _ hK Tryd.func38 rfl (rs := [.cell 2 55]) rfl Tryd.ntmps38 (by simp) Tryd.call38 (by kernel_rfl) (fun ha hb => agg_nb _ _) (fun hb ha => ?_)
  obtain ⟨h1, h2⟩ := hpre
  simp only [sm_GSymbol] at h1
  simp only [tot_GSymbol] at h2
  simp (maxSteps := 2000000) (disch := first | assumption | (refine asm_intro ?_; assumption) | exact Nat.le_add_right _ _ | exact Nat.le_refl _ | omega | (simp (disch := first | exact Nat.le_add_right _ _ | omega) only [Le_upd hb, Le_rfl, free_T hb, free_upd]; done) | fail) only [go_sem, push_cast, and_pos, Le_updF, Le_upd hb, free_T hb, h1]
def W26 : Trans := fun args H Bd K => ∃ (xs : List GSymbol), args = [lst (xs)] ∧ ((sm xs ∧ tot xs ≤ 1048576) ∧ K (lst (xs)) H Bd)
@[go_sem ↓] theorem W26_eq (xs : List GSymbol) (H : AH) (Bd : Nat) (K : Value → AH → Nat → Prop) : W26 [lst (xs)] H Bd K = ((sm xs ∧ tot xs ≤ 1048576) ∧ K (lst (xs)) H Bd) := by
  refine propext ⟨fun h => ?_, fun h => ⟨_, rfl, h⟩⟩
  obtain ⟨xs', e, h⟩ := h
  skip
  simp only [List.cons.injEq, Value.agg.injEq, toArr_inj, Value.int.injEq, Value.bool.injEq, Value.string.injEq, Value.slice.injEq, Value.pointer.injEq, Option.some.injEq, Addr.mk.injEq, lst_inj, true_and, and_true] at e
  obtain rfl := e
  exact h
theorem W26_ok : OK 26 W26 := by
  rintro args H Bd K ⟨xs, rfl, hpre, hK⟩
  refine fn_pure pok ((Env.base _).add 38 _ W38_ok) [] _ hK Tryd.func26 rfl (rs := [.tmp 2]) rfl Tryd.ntmps26 (by simp) Tryd.call26 (by kernel_rfl) (fun ha hb => lst_nb _ _) (fun hb ha => ?_)
  obtain ⟨h1, h2⟩ := hpre
  have e : tot xs = xs.length + (xs.map tot).sum := tot_list xs
  simp (maxSteps := 2000000) (disch := first | assumption | (refine asm_intro ?_; assumption) | exact Nat.le_add_right _ _ | exact Nat.le_refl _ | omega | (simp (disch := first | exact Nat.le_add_right _ _ | omega) only [Le_upd hb, Le_rfl, free_T hb, free_upd]; done) | fail) only [go_sem, push_cast, and_pos, Le_updF, Le_upd hb, free_T hb]
  refine tr_fill (α := GSymbol) hb xs (fun i => [(0, lst xs), (3, .slice (some ⟨Bd, 0, some 2⟩) xs.length (xs.length + 1)), (4, .int .i64 i)]) _ (zmake_len _ _) ⟨Nat.le_refl _, by omega⟩ (by simp only [go_sem, push_cast, and_pos, Le_updF]) (Le.refl _) ?_
  intro i L B hi hL hF hB hb'
  refine vq_conv pok (E := ((Env.base _).add 38 _ W38_ok)) (PL := []) (by kernel_rfl) ?_
  have hL' : L.length = xs.length * 2 := hL
  rcases Nat.lt_or_ge i xs.length with hlt | hge
  · have e1 : xs[i]? = some xs[i] := List.getElem?_eq_getElem hlt
    have hx := sm_mem h1 (List.getElem_mem hlt)
    have hx2 : tot xs[i] ≤ (xs.map tot).sum := tot_mem hlt
    simp (maxSteps := 2000000) (disch := first | assumption | (refine asm_intro ?_; assumption) | exact Nat.le_add_right _ _ | exact Nat.le_refl _ | omega | (simp (disch := first | exact Nat.le_add_right _ _ | omega) only [Le_upd hb, Le_rfl, free_T hb, free_upd]; done) | fail) only [go_sem, push_cast, and_pos, Le_updF, Le_upd hb, free_T hb, e1, hx]
    exact ⟨_, rfl, Le.refl _⟩
  · simp (maxSteps := 2000000) (disch := first | assumption | (refine asm_intro ?_; assumption) | exact Nat.le_add_right _ _ | exact Nat.le_refl _ | omega | (simp (disch := first | exact Nat.le_add_right _ _ | omega) only [Le_upd hb, Le_rfl, free_T hb, free_upd]; done) | fail) only [go_sem, push_cast, and_pos, Le_updF, Le_upd hb, free_T hb]
    have hf : L = flat xs := by
      rw [List.take_of_length_le (by rw [hL]; exact Nat.mul_le_mul_right _ hge), List.take_of_length_le hge] at hF
      exact hF
    subst hf
    refine Tr.fin hb 3 (Nat.le_refl Bd) (by simp only [go_sem, push_cast, and_pos, Le_updF]; rfl) rfl ?_
    refine vq_conv pok (E := ((Env.base _).add 38 _ W38_ok)) (PL := []) (by kernel_rfl) ?_
    simp (maxSteps := 2000000) (disch := first | assumption | (refine asm_intro ?_; assumption) | exact Nat.le_add_right _ _ | exact Nat.le_refl _ | omega | (simp (disch := first | exact Nat.le_add_right _ _ | omega) only [Le_upd hb, Le_rfl, free_T hb, free_upd]; done) | fail) only [go_sem, push_cast, and_pos, Le_updF, Le_upd hb, free_T hb]
def W12 : Trans := fun args H Bd K => ∃ (x : GSignature), args = [.agg (enc (x)).toArray] ∧ ((sm x ∧ tot x ≤ 1048576) ∧ K (.agg (enc (x)).toArray) H Bd)
@[go_sem ↓] theorem W12_eq (x_symbols : List GSymbol) (H : AH) (Bd : Nat) (K : Value → AH → Nat → Prop) : W12 [.agg #[lst (x_symbols)]] H Bd K = ((sm (GSignature.mk x_symbols) ∧ tot (GSignature.mk x_symbols) ≤ 1048576) ∧ K (.agg (enc ((GSignature.mk x_symbols))).toArray) H Bd) := by
  refine propext ⟨fun h => ?_, fun h => ⟨_, rfl, h⟩⟩
  obtain ⟨x', e, h⟩ := h
  obtain ⟨xsymbols'⟩ := x'
  simp only [enc_GSignature, List.cons.injEq, Value.agg.injEq, toArr_inj, Value.int.injEq, Value.bool.injEq, Value.string.injEq, Value.slice.injEq, Value.pointer.injEq, Option.some.injEq, Addr.mk.injEq, lst_inj, true_and, and_true] at e
  obtain rfl := e
  exact h
theorem W12_ok : OK 12 W12 := by
  rintro args H Bd K ⟨x, rfl, hpre, hK⟩
  refine fn_pure pok ((Env.base _).add 26 _ W26_ok) [] _ hK Tryd.func12 rfl (rs := [.cell 2 39]) rfl Tryd.ntmps12 (by simp) Tryd.call12 (by kernel_rfl) (fun ha hb => agg_nb _ _) (fun hb ha => ?_)
  obtain ⟨h1, h2⟩ := hpre
  simp only [sm_GSignature] at h1
  simp only [tot_GSignature] at h2
  simp (maxSteps := 2000000) (disch := first | assumption | (refine asm_intro ?_; assumption) | exact Nat.le_add_right _ _ | exact Nat.le_refl _ | omega | (simp (disch := first | exact Nat.le_add_right _ _ | omega) only [Le_upd hb, Le_rfl, free_T hb, free_upd]; done) | fail) only [go_sem, push_cast, and_pos, Le_updF, Le_upd hb, free_T hb, h1]
def W13 : Trans := fun args H Bd K => ∃ (xs : List Int), args = [lst (xs)] ∧ ((sm xs ∧ tot xs ≤ 1048576) ∧ K (lst (xs)) H Bd)
@[go_sem ↓] theorem W13_eq (xs : List Int) (H : AH) (Bd : Nat) (K : Value → AH → Nat → Prop) : W13 [lst (xs)] H Bd K = ((sm xs ∧ tot xs ≤ 1048576) ∧ K (lst (xs)) H Bd) := by
  refine propext ⟨fun h => ?_, fun h => ⟨_, rfl, h⟩⟩
  obtain ⟨xs', e, h⟩ := h
  skip
  simp only [List.cons.injEq, Value.agg.injEq, toArr_inj, Value.int.injEq, Value.bool.injEq, Value.string.injEq, Value.slice.injEq, Value.pointer.injEq, Option.some.injEq, Addr.mk.injEq, lst_inj, true_and, and_true] at e
  obtain rfl := e
  exact h
theorem W13_ok : OK 13 W13 := by
  rintro args H Bd K ⟨xs, rfl, hpre, hK⟩
  refine fn_pure pok (Env.base _) [] _ hK Tryd.func13 rfl (rs := [.tmp 2]) rfl Tryd.ntmps13 (by simp) Tryd.call13 (by kernel_rfl) (fun ha hb => lst_nb _ _) (fun hb ha => ?_)
  obtain ⟨h1, h2⟩ := hpre
  have e : tot xs = xs.length + (xs.map tot).sum := tot_list xs
  simp (maxSteps := 2000000) (disch := first | assumption | (refine asm_intro ?_; assumption) | exact Nat.le_add_right _ _ | exact Nat.le_refl _ | omega | (simp (disch := first | exact Nat.le_add_right _ _ | omega) only [Le_upd hb, Le_rfl, free_T hb, free_upd]; done) | fail) only [go_sem, push_cast, and_pos, Le_updF, Le_upd hb, free_T hb]
  refine tr_fill (α := Int) hb xs (fun i => [(0, lst xs), (3, .slice (some ⟨Bd, 0, some 1⟩) xs.length (xs.length + 1)), (4, .int .i64 i)]) _ (zmake_len _ _) ⟨Nat.le_refl _, by omega⟩ (by simp only [go_sem, push_cast, and_pos, Le_updF]) (Le.refl _) ?_
  intro i L B hi hL hF hB hb'
  refine vq_conv pok (E := (Env.base _)) (PL := []) (by kernel_rfl) ?_
  have hL' : L.length = xs.length * 1 := hL
  rcases Nat.lt_or_ge i xs.length with hlt | hge
  · have e1 : xs[i]? = some xs[i] := List.getElem?_eq_getElem hlt
    have hx := sm_mem h1 (List.getElem_mem hlt)
    have hx2 : tot xs[i] ≤ (xs.map tot).sum := tot_mem hlt
    simp (maxSteps := 2000000) (disch := first | assumption | (refine asm_intro ?_; assumption) | exact Nat.le_add_right _ _ | exact Nat.le_refl _ | omega | (simp (disch := first | exact Nat.le_add_right _ _ | omega) only [Le_upd hb, Le_rfl, free_T hb, free_upd]; done) | fail) only [go_sem, push_cast, and_pos, Le_updF, Le_upd hb, free_T hb, e1, hx]
    exact ⟨_, rfl, Le.refl _⟩
  · simp (maxSteps := 2000000) (disch := first | assumption | (refine asm_intro ?_; assumption) | exact Nat.le_add_right _ _ | exact Nat.le_refl _ | omega | (simp (disch := first | exact Nat.le_add_right _ _ | omega) only [Le_upd hb, Le_rfl, free_T hb, free_upd]; done) | fail) only [go_sem, push_cast, and_pos, Le_updF, Le_upd hb, free_T hb]
    have hf : L = flat xs := by
      rw [List.take_of_length_le (by rw [hL]; exact Nat.mul_le_mul_right _ hge), List.take_of_length_le hge] at hF
      exact hF
    subst hf
    refine Tr.fin hb 3 (Nat.le_refl Bd) (by simp only [go_sem, push_cast, and_pos, Le_updF]; rfl) rfl ?_
    refine vq_conv pok (E := (Env.base _)) (PL := []) (by kernel_rfl) ?_
    simp (maxSteps := 2000000) (disch := first | assumption | (refine asm_intro ?_; assumption) | exact Nat.le_add_right _ _ | exact Nat.le_refl _ | omega | (simp (disch := first | exact Nat.le_add_right _ _ | omega) only [Le_upd hb, Le_rfl, free_T hb, free_upd]; done) | fail) only [go_sem, push_cast, and_pos, Le_updF, Le_upd hb, free_T hb]
def W50 : Trans := fun args H Bd K => ∃ (s : ByteArray), args = [.string (s)] ∧ ((s.size ≤ 281474976710656) ∧ K (.bool (isNm s)) H Bd)
@[go_sem ↓] theorem W50_eq (s : ByteArray) (H : AH) (Bd : Nat) (K : Value → AH → Nat → Prop) : W50 [.string (s)] H Bd K = ((s.size ≤ 281474976710656) ∧ K (.bool (isNm s)) H Bd) := by
  refine propext ⟨fun h => ?_, fun h => ⟨_, rfl, h⟩⟩
  obtain ⟨s', e, h⟩ := h
  skip
  simp only [List.cons.injEq, Value.agg.injEq, toArr_inj, Value.int.injEq, Value.bool.injEq, Value.string.injEq, Value.slice.injEq, Value.pointer.injEq, Option.some.injEq, Addr.mk.injEq, lst_inj, true_and, and_true] at e
  obtain rfl := e
  exact h
set_option maxHeartbeats 2000000 in
theorem W50_ok : OK 50 W50 := by
  rintro args H Bd K ⟨s, rfl, hpre, hK⟩
  refine fn_pure pok (Env.base _) [(1, [], [], (.k 4 (.grp false 7 10 3 [8, 9, 10] 11 none (.k 3 .nil) .nil))), (6, [], [], (.k 5 (.grp false 22 26 4 [23, 24, 25, 26] 27 none (.k 4 .nil) .nil)))] _ hK Tryd.func50 rfl (rs := [.tmp 2]) rfl Tryd.ntmps50 (by simp) Tryd.call50 (by kernel_rfl) (fun ha hb => .bool _) (fun hb ha => ?_)
  simp (maxSteps := 2000000) (disch := first | assumption | (refine asm_intro ?_; assumption) | exact Nat.le_add_right _ _ | exact Nat.le_refl _ | omega | (simp (disch := first | exact Nat.le_add_right _ _ | omega) only [Le_upd hb, Le_rfl, free_T hb, free_upd]; done) | fail) only [go_sem, push_cast, and_pos, Le_updF, Le_upd hb, free_T hb]
  refine ⟨fun h => ?_, fun h1 h2 => ?_⟩
  · unfold isNm; grind
  refine tr_for (fun i => ∀ j, j < i → 97 ≤ byteAt s j ∧ byteAt s j ≤ 122) (s.size) (fun i => [(0, .string s), (3, .int .i64 i)]) (by simp) (by simp only [go_sem, push_cast, and_pos, Le_updF]) ?_
  intro i Bi hIi hii hBi
  refine vq_conv pok (E := (Env.base _)) (PL := [(1, [], [], (.k 4 (.grp false 7 10 3 [8, 9, 10] 11 none (.k 3 .nil) .nil))), (6, [], [], (.k 5 (.grp false 22 26 4 [23, 24, 25, 26] 27 none (.k 4 .nil) .nil)))]) (by kernel_rfl) ?_
  rcases Nat.lt_or_ge i (s.size) with hlti | hgei
  · simp (maxSteps := 2000000) (disch := first | assumption | (refine asm_intro ?_; assumption) | exact Nat.le_add_right _ _ | exact Nat.le_refl _ | omega | (simp (disch := first | exact Nat.le_add_right _ _ | omega) only [Le_upd hb, Le_rfl, free_T hb, free_upd]; done) | fail) only [go_sem, push_cast, and_pos, Le_updF, Le_upd hb, free_T hb]
    unfold isNm
    all_goals first | done | trivial | ((try simp only [Cnp, Imp]); grind)
  · simp (maxSteps := 2000000) (disch := first | assumption | (refine asm_intro ?_; assumption) | exact Nat.le_add_right _ _ | exact Nat.le_refl _ | omega | (simp (disch := first | exact Nat.le_add_right _ _ | omega) only [Le_upd hb, Le_rfl, free_T hb, free_upd]; done) | fail) only [go_sem, push_cast, and_pos, Le_updF, Le_upd hb, free_T hb]
    refine vq_conv pok (E := (Env.base _)) (PL := [(1, [], [], (.k 4 (.grp false 7 10 3 [8, 9, 10] 11 none (.k 3 .nil) .nil))), (6, [], [], (.k 5 (.grp false 22 26 4 [23, 24, 25, 26] 27 none (.k 4 .nil) .nil)))]) (by kernel_rfl) ?_
    simp (maxSteps := 2000000) (disch := first | assumption | (refine asm_intro ?_; assumption) | exact Nat.le_add_right _ _ | exact Nat.le_refl _ | omega | (simp (disch := first | exact Nat.le_add_right _ _ | omega) only [Le_upd hb, Le_rfl, free_T hb, free_upd]; done) | fail) only [go_sem, push_cast, and_pos, Le_updF, Le_upd hb, free_T hb]
    unfold isNm
    all_goals first | done | trivial | ((try simp only [Cnp, Imp]); grind)
def W51 : Trans := fun args H Bd K => ∃ (n : Int) (low : Int) (high : Int), args = [.int .i64 (n), .int .i64 (low), .int .i64 (high)] ∧ (K (.bool (decide (low ≤ n ∧ n ≤ high))) H Bd)
@[go_sem ↓] theorem W51_eq (n : Int) (low : Int) (high : Int) (H : AH) (Bd : Nat) (K : Value → AH → Nat → Prop) : W51 [.int .i64 (n), .int .i64 (low), .int .i64 (high)] H Bd K = (K (.bool (decide (low ≤ n ∧ n ≤ high))) H Bd) := by
  refine propext ⟨fun h => ?_, fun h => ⟨_, _, _, rfl, h⟩⟩
  obtain ⟨n', low', high', e, h⟩ := h
  skip
  skip
  skip
  simp only [List.cons.injEq, Value.agg.injEq, toArr_inj, Value.int.injEq, Value.bool.injEq, Value.string.injEq, Value.slice.injEq, Value.pointer.injEq, Option.some.injEq, Addr.mk.injEq, lst_inj, true_and, and_true] at e
  obtain ⟨rfl, rfl, rfl⟩ := e
  exact h
theorem W51_ok : OK 51 W51 := by
  rintro args H Bd K ⟨n, low, high, rfl, hK⟩
  refine fn_pure pok (Env.base _) [(1, [], [], (.k 4 (.grp true 10 13 3 [11, 12, 13] 14 none (.k 3 .nil) (.k 1 .nil))))] _ hK Tryd.func51 rfl (rs := [.tmp 6]) rfl Tryd.ntmps51 (by simp) Tryd.call51 (by kernel_rfl) (fun ha hb => .bool _) (fun hb ha => ?_)
  simp (maxSteps := 2000000) (disch := first | assumption | (refine asm_intro ?_; assumption) | exact Nat.le_add_right _ _ | exact Nat.le_refl _ | omega | (simp (disch := first | exact Nat.le_add_right _ _ | omega) only [Le_upd hb, Le_rfl, free_T hb, free_upd]; done) | fail) only [go_sem, push_cast, and_pos, Le_updF, Le_upd hb, free_T hb]
  all_goals first | done | trivial | ((try simp only [Cnp, Imp]); grind)
def W36 : Trans := fun args H Bd K => ∃ (s : GSignature), args = [.agg (enc (s)).toArray] ∧ ((sm s) ∧ K (.int .i64 (sigF s)) H Bd)
@[go_sem ↓] theorem W36_eq (s_symbols : List GSymbol) (H : AH) (Bd : Nat) (K : Value → AH → Nat → Prop) : W36 [.agg #[lst (s_symbols)]] H Bd K = ((sm (GSignature.mk s_symbols)) ∧ K (.int .i64 (sigF (GSignature.mk s_symbols))) H Bd) := by
  refine propext ⟨fun h => ?_, fun h => ⟨_, rfl, h⟩⟩
  obtain ⟨s', e, h⟩ := h
  obtain ⟨ssymbols'⟩ := s'
  simp only [enc_GSignature, List.cons.injEq, Value.agg.injEq, toArr_inj, Value.int.injEq, Value.bool.injEq, Value.string.injEq, Value.slice.injEq, Value.pointer.injEq, Option.some.injEq, Addr.mk.injEq, lst_inj, true_and, and_true] at e
  obtain rfl := e
  exact h
set_option maxHeartbeats 2000000 in
theorem W36_ok : OK 36 W36 := by
  rintro args H Bd K ⟨s, rfl, hpre, hK⟩
  refine fn_pure pok (((Env.base _).add 50 _ W50_ok).add 51 _ W51_ok) [(2, [], [], (.k 3 (.grp false 13 15 2 [14, 15] 16 none (.k 2 .nil) .nil))), (17, [0,1,2,3,4,5,6,7,8,9,10,11,12], [⟨0, [], []⟩, ⟨1, [], []⟩, ⟨2, [], []⟩, ⟨3, [], []⟩, ⟨4, [], []⟩, ⟨5, [], []⟩, ⟨6, [], []⟩, ⟨7, [], []⟩, ⟨8, [], []⟩, ⟨9, [], []⟩, ⟨10, [], []⟩, ⟨11, [], []⟩, ⟨12, [], []⟩], .nil)] _ hK Tryd.func36 rfl (rs := [.tmp 2]) rfl Tryd.ntmps36 (by simp) Tryd.call36 (by kernel_rfl) (fun ha hb => .int _ _) (fun hb ha => ?_)
  simp only [sm_GSignature] at hpre
  have hlen := sm_len hpre
  simp (maxSteps := 2000000) (disch := first | assumption | (refine asm_intro ?_; assumption) | exact Nat.le_add_right _ _ | exact Nat.le_refl _ | omega | (simp (disch := first | exact Nat.le_add_right _ _ | omega) only [Le_upd hb, Le_rfl, free_T hb, free_upd]; done) | fail) only [go_sem, push_cast, and_pos, Le_updF, Le_upd hb, free_T hb]
  refine ⟨fun h => by unfold sigF; rw [if_pos (by omega)], fun h1 h2 => ?_⟩
  have hs : sigF s = sigG s := by unfold sigF; rw [if_neg (by omega)]
  rw [hs]
  refine tr_for (fun i => symL (s.symbols.drop i) = symL s.symbols) (s.symbols.length) (fun i => [(1, .pointer (some ⟨Bd, 0, none⟩)), (3, .int .i64 s.symbols.length), (4, .int .i64 i)]) (by simp) (by simp only [go_sem, push_cast, and_pos, Le_updF]) ?_
  intro i Bi hIi hii hBi
  refine vq_conv pok (E := (((Env.base _).add 50 _ W50_ok).add 51 _ W51_ok)) (PL := [(2, [], [], (.k 3 (.grp false 13 15 2 [14, 15] 16 none (.k 2 .nil) .nil))), (17, [0,1,2,3,4,5,6,7,8,9,10,11,12], [⟨0, [], []⟩, ⟨1, [], []⟩, ⟨2, [], []⟩, ⟨3, [], []⟩, ⟨4, [], []⟩, ⟨5, [], []⟩, ⟨6, [], []⟩, ⟨7, [], []⟩, ⟨8, [], []⟩, ⟨9, [], []⟩, ⟨10, [], []⟩, ⟨11, [], []⟩, ⟨12, [], []⟩], .nil)]) (by kernel_rfl) ?_
  rcases Nat.lt_or_ge i (s.symbols.length) with hlti | hgei
  · have e1 : s.symbols[i]? = some s.symbols[i] := List.getElem?_eq_getElem hlti
    have hd := List.drop_eq_getElem_cons hlti
    have hx := sm_mem hpre (List.getElem_mem hlti)
    simp only [sm_GSymbol, sm_str, sm_int, and_true] at hx
    rw [hd, symL] at hIi
    simp (maxSteps := 2000000) (disch := first | assumption | (refine asm_intro ?_; assumption) | exact Nat.le_add_right _ _ | exact Nat.le_refl _ | omega | (simp (disch := first | exact Nat.le_add_right _ _ | omega) only [Le_upd hb, Le_rfl, free_T hb, free_upd]; done) | fail) only [go_sem, push_cast, and_pos, Le_updF, Le_upd hb, free_T hb, e1, hx]
    generalize symL (List.drop (i + 1) s.symbols) = q at *
    unfold sigG
    all_goals first | done | trivial | ((try simp only [Cnp, Imp]); grind)
  · simp (maxSteps := 2000000) (disch := first | assumption | (refine asm_intro ?_; assumption) | exact Nat.le_add_right _ _ | exact Nat.le_refl _ | omega | (simp (disch := first | exact Nat.le_add_right _ _ | omega) only [Le_upd hb, Le_rfl, free_T hb, free_upd]; done) | fail) only [go_sem, push_cast, and_pos, Le_updF, Le_upd hb, free_T hb]
    refine vq_conv pok (E := (((Env.base _).add 50 _ W50_ok).add 51 _ W51_ok)) (PL := [(2, [], [], (.k 3 (.grp false 13 15 2 [14, 15] 16 none (.k 2 .nil) .nil))), (17, [0,1,2,3,4,5,6,7,8,9,10,11,12], [⟨0, [], []⟩, ⟨1, [], []⟩, ⟨2, [], []⟩, ⟨3, [], []⟩, ⟨4, [], []⟩, ⟨5, [], []⟩, ⟨6, [], []⟩, ⟨7, [], []⟩, ⟨8, [], []⟩, ⟨9, [], []⟩, ⟨10, [], []⟩, ⟨11, [], []⟩, ⟨12, [], []⟩], .nil)]) (by kernel_rfl) ?_
    simp (maxSteps := 2000000) (disch := first | assumption | (refine asm_intro ?_; assumption) | exact Nat.le_add_right _ _ | exact Nat.le_refl _ | omega | (simp (disch := first | exact Nat.le_add_right _ _ | omega) only [Le_upd hb, Le_rfl, free_T hb, free_upd]; done) | fail) only [go_sem, push_cast, and_pos, Le_updF, Le_upd hb, free_T hb]
    have h0 : symL s.symbols = 0 := by rw [← hIi, List.drop_of_length_le hgei]; rfl
    refine tr_for (fun j => ∀ a b x y, b < a → a < j → s.symbols[a]? = some x → s.symbols[b]? = some y → x.name ≠ y.name) (s.symbols.length) (fun j => [(1, .pointer (some ⟨Bd, 0, none⟩)), (3, .int .i64 s.symbols.length), (5, .int .i64 j)]) (by simp) (by simp only [go_sem, push_cast, and_pos, Le_updF]) ?_
    intro j Bj hIj hij hBj
    refine vq_conv pok (E := (((Env.base _).add 50 _ W50_ok).add 51 _ W51_ok)) (PL := [(2, [], [], (.k 3 (.grp false 13 15 2 [14, 15] 16 none (.k 2 .nil) .nil))), (17, [0,1,2,3,4,5,6,7,8,9,10,11,12], [⟨0, [], []⟩, ⟨1, [], []⟩, ⟨2, [], []⟩, ⟨3, [], []⟩, ⟨4, [], []⟩, ⟨5, [], []⟩, ⟨6, [], []⟩, ⟨7, [], []⟩, ⟨8, [], []⟩, ⟨9, [], []⟩, ⟨10, [], []⟩, ⟨11, [], []⟩, ⟨12, [], []⟩], .nil)]) (by kernel_rfl) ?_
    rcases Nat.lt_or_ge j (s.symbols.length) with hltj | hgej
    · have e1 : s.symbols[j]? = some s.symbols[j] := List.getElem?_eq_getElem hltj
      simp (maxSteps := 2000000) (disch := first | assumption | (refine asm_intro ?_; assumption) | exact Nat.le_add_right _ _ | exact Nat.le_refl _ | omega | (simp (disch := first | exact Nat.le_add_right _ _ | omega) only [Le_upd hb, Le_rfl, free_T hb, free_upd]; done) | fail) only [go_sem, push_cast, and_pos, Le_updF, Le_upd hb, free_T hb, e1]
      refine tr_for (fun k => ∀ b y, b < k → s.symbols[b]? = some y → s.symbols[j].name ≠ y.name) (j) (fun k => [(1, .pointer (some ⟨Bd, 0, none⟩)), (3, .int .i64 s.symbols.length), (5, .int .i64 j), (6, .int .i64 k)]) (by simp) (by simp only [go_sem, push_cast, and_pos, Le_updF]) ?_
      intro k Bk hIk hik hBk
      refine vq_conv pok (E := (((Env.base _).add 50 _ W50_ok).add 51 _ W51_ok)) (PL := [(2, [], [], (.k 3 (.grp false 13 15 2 [14, 15] 16 none (.k 2 .nil) .nil))), (17, [0,1,2,3,4,5,6,7,8,9,10,11,12], [⟨0, [], []⟩, ⟨1, [], []⟩, ⟨2, [], []⟩, ⟨3, [], []⟩, ⟨4, [], []⟩, ⟨5, [], []⟩, ⟨6, [], []⟩, ⟨7, [], []⟩, ⟨8, [], []⟩, ⟨9, [], []⟩, ⟨10, [], []⟩, ⟨11, [], []⟩, ⟨12, [], []⟩], .nil)]) (by kernel_rfl) ?_
      rcases Nat.lt_or_ge k (j) with hltk | hgek
      · have e2 : s.symbols[k]? = some (s.symbols[k]'(by omega)) := List.getElem?_eq_getElem _
        simp (maxSteps := 2000000) (disch := first | assumption | (refine asm_intro ?_; assumption) | exact Nat.le_add_right _ _ | exact Nat.le_refl _ | omega | (simp (disch := first | exact Nat.le_add_right _ _ | omega) only [Le_upd hb, Le_rfl, free_T hb, free_upd]; done) | fail) only [go_sem, push_cast, and_pos, Le_updF, Le_upd hb, free_T hb, e1, e2]
        refine ⟨fun h => ?_, fun h => fun b y hb1 hb2 => ?_⟩
        · unfold sigG
          rw [if_neg (by simp [h0]), if_pos (nodup_map_not hltk hltj h)]
        · by_cases e : b = k
          · subst e; rw [e2] at hb2; cases hb2; exact h
          · exact hIk b y (by omega) hb2
      · simp (maxSteps := 2000000) (disch := first | assumption | (refine asm_intro ?_; assumption) | exact Nat.le_add_right _ _ | exact Nat.le_refl _ | omega | (simp (disch := first | exact Nat.le_add_right _ _ | omega) only [Le_upd hb, Le_rfl, free_T hb, free_upd]; done) | fail) only [go_sem, push_cast, and_pos, Le_updF, Le_upd hb, free_T hb]
        intro a b x y h1 h2 h3 h4
        by_cases e : a = j
        · subst e; rw [e1] at h3; cases h3; exact hIk b y (by omega) h4
        · exact hIj a b x y h1 (by omega) h3 h4
    · simp (maxSteps := 2000000) (disch := first | assumption | (refine asm_intro ?_; assumption) | exact Nat.le_add_right _ _ | exact Nat.le_refl _ | omega | (simp (disch := first | exact Nat.le_add_right _ _ | omega) only [Le_upd hb, Le_rfl, free_T hb, free_upd]; done) | fail) only [go_sem, push_cast, and_pos, Le_updF, Le_upd hb, free_T hb]
      refine vq_conv pok (E := (((Env.base _).add 50 _ W50_ok).add 51 _ W51_ok)) (PL := [(2, [], [], (.k 3 (.grp false 13 15 2 [14, 15] 16 none (.k 2 .nil) .nil))), (17, [0,1,2,3,4,5,6,7,8,9,10,11,12], [⟨0, [], []⟩, ⟨1, [], []⟩, ⟨2, [], []⟩, ⟨3, [], []⟩, ⟨4, [], []⟩, ⟨5, [], []⟩, ⟨6, [], []⟩, ⟨7, [], []⟩, ⟨8, [], []⟩, ⟨9, [], []⟩, ⟨10, [], []⟩, ⟨11, [], []⟩, ⟨12, [], []⟩], .nil)]) (by kernel_rfl) ?_
      simp (maxSteps := 2000000) (disch := first | assumption | (refine asm_intro ?_; assumption) | exact Nat.le_add_right _ _ | exact Nat.le_refl _ | omega | (simp (disch := first | exact Nat.le_add_right _ _ | omega) only [Le_upd hb, Le_rfl, free_T hb, free_upd]; done) | fail) only [go_sem, push_cast, and_pos, Le_updF, Le_upd hb, free_T hb]
      have h7 : (s.symbols.map (·.name)).Nodup := nodup_map fun i j x y h1 h2 h3 h4 => hIj i j x y h1 (by omega) h3 h4
      have hg : sigG s = if s.symbols.any (fun x => decide (x.arity = 0)) = true then 0 else 4 := by
        unfold sigG
        rw [if_neg (by simp [h0]), if_neg (by simp [h7])]
      rw [hg]
      refine tr_for (fun l => ∀ b, b < l → ∀ y, s.symbols[b]? = some y → decide (y.arity = 0) = false) (s.symbols.length) (fun l => [(1, .pointer (some ⟨Bd, 0, none⟩)), (3, .int .i64 s.symbols.length), (7, .int .i64 l)]) (by simp) (by simp only [go_sem, push_cast, and_pos, Le_updF]) ?_
      intro l Bl hIl hil hBl
      refine vq_conv pok (E := (((Env.base _).add 50 _ W50_ok).add 51 _ W51_ok)) (PL := [(2, [], [], (.k 3 (.grp false 13 15 2 [14, 15] 16 none (.k 2 .nil) .nil))), (17, [0,1,2,3,4,5,6,7,8,9,10,11,12], [⟨0, [], []⟩, ⟨1, [], []⟩, ⟨2, [], []⟩, ⟨3, [], []⟩, ⟨4, [], []⟩, ⟨5, [], []⟩, ⟨6, [], []⟩, ⟨7, [], []⟩, ⟨8, [], []⟩, ⟨9, [], []⟩, ⟨10, [], []⟩, ⟨11, [], []⟩, ⟨12, [], []⟩], .nil)]) (by kernel_rfl) ?_
      rcases Nat.lt_or_ge l (s.symbols.length) with hltl | hgel
      · have e2 : s.symbols[l]? = some s.symbols[l] := List.getElem?_eq_getElem hltl
        simp (maxSteps := 2000000) (disch := first | assumption | (refine asm_intro ?_; assumption) | exact Nat.le_add_right _ _ | exact Nat.le_refl _ | omega | (simp (disch := first | exact Nat.le_add_right _ _ | omega) only [Le_upd hb, Le_rfl, free_T hb, free_upd]; done) | fail) only [go_sem, push_cast, and_pos, Le_updF, Le_upd hb, free_T hb, e2]
        refine ⟨fun h => ?_, fun h => fun b hb1 y hb2 => ?_⟩
        · rw [if_pos (any_hit hltl (by simpa using h))]
        · by_cases e : b = l
          · subst e; rw [e2] at hb2; cases hb2; simpa using h
          · simpa using hIl b (by omega) y hb2
      · simp (maxSteps := 2000000) (disch := first | assumption | (refine asm_intro ?_; assumption) | exact Nat.le_add_right _ _ | exact Nat.le_refl _ | omega | (simp (disch := first | exact Nat.le_add_right _ _ | omega) only [Le_upd hb, Le_rfl, free_T hb, free_upd]; done) | fail) only [go_sem, push_cast, and_pos, Le_updF, Le_upd hb, free_T hb]
        refine vq_conv pok (E := (((Env.base _).add 50 _ W50_ok).add 51 _ W51_ok)) (PL := [(2, [], [], (.k 3 (.grp false 13 15 2 [14, 15] 16 none (.k 2 .nil) .nil))), (17, [0,1,2,3,4,5,6,7,8,9,10,11,12], [⟨0, [], []⟩, ⟨1, [], []⟩, ⟨2, [], []⟩, ⟨3, [], []⟩, ⟨4, [], []⟩, ⟨5, [], []⟩, ⟨6, [], []⟩, ⟨7, [], []⟩, ⟨8, [], []⟩, ⟨9, [], []⟩, ⟨10, [], []⟩, ⟨11, [], []⟩, ⟨12, [], []⟩], .nil)]) (by kernel_rfl) ?_
        simp (maxSteps := 2000000) (disch := first | assumption | (refine asm_intro ?_; assumption) | exact Nat.le_add_right _ _ | exact Nat.le_refl _ | omega | (simp (disch := first | exact Nat.le_add_right _ _ | omega) only [Le_upd hb, Le_rfl, free_T hb, free_upd]; done) | fail) only [go_sem, push_cast, and_pos, Le_updF, Le_upd hb, free_T hb]
        rw [if_neg (by rw [any_false fun j hj x hx => hIl j (by omega) x hx]; simp)]
def V52 : Trans := fun args H Bd K => ∃ (s : GSignature) (n : Int), args = [.agg (enc (s)).toArray, .int .i64 (n)] ∧ ((sm s ∧ R64 n) ∧ K (.bool (isSym s n)) H Bd)
@[go_sem ↓] theorem V52_eq (s_symbols : List GSymbol) (n : Int) (H : AH) (Bd : Nat) (K : Value → AH → Nat → Prop) : V52 [.agg #[lst (s_symbols)], .int .i64 (n)] H Bd K = ((sm (GSignature.mk s_symbols) ∧ R64 n) ∧ K (.bool (isSym (GSignature.mk s_symbols) n)) H Bd) := by
  refine propext ⟨fun h => ?_, fun h => ⟨_, _, rfl, h⟩⟩
  obtain ⟨s', n', e, h⟩ := h
  obtain ⟨ssymbols'⟩ := s'
  skip
  simp only [enc_GSignature, enc_int, enc_str, enc_list, enc_bool, enc_byte, List.cons.injEq, Value.agg.injEq, toArr_inj, Value.int.injEq, Value.bool.injEq, Value.string.injEq, Value.slice.injEq, Value.pointer.injEq, Option.some.injEq, Addr.mk.injEq, lst_inj, true_and, and_true] at e
  obtain ⟨rfl, rfl⟩ := e
  exact h
def W52 : Trans := fun args H Bd K => ∃ (ps vn : Value), args = [ps, vn] ∧ Yld (cellsAt H 1 ps) fun cs => callW V52 [.agg cs.toArray, vn] H Bd K
@[go_sem ↓] theorem W52_eq (ps vn : Value) (H : AH) (Bd : Nat) (K : Value → AH → Nat → Prop) : W52 [ps, vn] H Bd K = (Yld (cellsAt H 1 ps) fun cs => callW V52 (idS [.agg cs.toArray, vn]) H Bd K) := by
  refine propext ⟨fun h => ?_, fun h => ⟨_, _, rfl, h⟩⟩
  obtain ⟨ps', vn', e, h⟩ := h
  simp only [List.cons.injEq, and_true] at e
  obtain ⟨rfl, rfl⟩ := e
  exact h
theorem W52_ok : OK 52 W52 := by
  rintro args H Bd K ⟨ps, vn, rfl, cs, es, h⟩
  obtain ⟨s, n, e, hpre, hK⟩ := h
  simp only [List.cons.injEq, and_true] at e
  obtain ⟨Es, rfl⟩ := e
  obtain rfl := agg_inj Es
  refine fn_pure pok ((Env.base _).add 51 _ W51_ok) [] _ hK Tryd.func52 rfl (rs := [.tmp 4]) rfl Tryd.ntmps52 (by simp) Tryd.call52 (by kernel_rfl) (fun ha hb => .bool _) (fun hb ha => ?_)
  have Ps := cellsAt_out es (NB.vpok (ha ps (by simp)))
  simp only [enc_GSignature] at Ps
  obtain ⟨h1, h2⟩ := hpre
  simp only [sm_GSignature] at h1
  have hlen := sm_len h1
  simp (maxSteps := 2000000) (disch := first | assumption | (refine asm_intro ?_; assumption) | exact Nat.le_add_right _ _ | exact Nat.le_refl _ | omega | (simp (disch := first | exact Nat.le_add_right _ _ | omega) only [Le_upd hb, Le_rfl, free_T hb, free_upd]; done) | fail) only [go_sem, push_cast, and_pos, Le_updF, Le_upd hb, free_T hb, Ps.nil, Ps.fldL (m := 1) rfl, Ps.ldL (m := 1) rfl, Ps.ld0L (m := 1) rfl, Ps.cellsL (m := 1) rfl, Ps.cellsOL (m := 1) rfl]
  unfold isSym
  all_goals first | done | trivial | ((try simp only [Cnp, Imp]); grind)
def V37 : Trans := fun args H Bd K => ∃ (s : GSignature) (order : List Int), args = [.agg (enc (s)).toArray, lst (order)] ∧ ((sm s ∧ sm order ∧ rg order) ∧ K (.int .i64 (ordG s order)) H Bd)
@[go_sem ↓] theorem V37_eq (s_symbols : List GSymbol) (order : List Int) (H : AH) (Bd : Nat) (K : Value → AH → Nat → Prop) : V37 [.agg #[lst (s_symbols)], lst (order)] H Bd K = ((sm (GSignature.mk s_symbols) ∧ sm order ∧ rg order) ∧ K (.int .i64 (ordG (GSignature.mk s_symbols) order)) H Bd) := by
  refine propext ⟨fun h => ?_, fun h => ⟨_, _, rfl, h⟩⟩
  obtain ⟨s', order', e, h⟩ := h
  obtain ⟨ssymbols'⟩ := s'
  skip
  simp only [enc_GSignature, enc_int, enc_str, enc_list, enc_bool, enc_byte, List.cons.injEq, Value.agg.injEq, toArr_inj, Value.int.injEq, Value.bool.injEq, Value.string.injEq, Value.slice.injEq, Value.pointer.injEq, Option.some.injEq, Addr.mk.injEq, lst_inj, true_and, and_true] at e
  obtain ⟨rfl, rfl⟩ := e
  exact h
def W37 : Trans := fun args H Bd K => ∃ (ps vorder : Value), args = [ps, vorder] ∧ Yld (cellsAt H 1 ps) fun cs => callW V37 [.agg cs.toArray, vorder] H Bd K
@[go_sem ↓] theorem W37_eq (ps vorder : Value) (H : AH) (Bd : Nat) (K : Value → AH → Nat → Prop) : W37 [ps, vorder] H Bd K = (Yld (cellsAt H 1 ps) fun cs => callW V37 (idS [.agg cs.toArray, vorder]) H Bd K) := by
  refine propext ⟨fun h => ?_, fun h => ⟨_, _, rfl, h⟩⟩
  obtain ⟨ps', vorder', e, h⟩ := h
  simp only [List.cons.injEq, and_true] at e
  obtain ⟨rfl, rfl⟩ := e
  exact h
set_option maxHeartbeats 2000000 in
theorem W37_ok : OK 37 W37 := by
  rintro args H Bd K ⟨ps, vorder, rfl, cs, es, h⟩
  obtain ⟨s, order, e, hpre, hK⟩ := h
  simp only [List.cons.injEq, and_true] at e
  obtain ⟨Es, rfl⟩ := e
  obtain rfl := agg_inj Es
  refine fn_pure pok ((Env.base _).add 52 _ W52_ok) [(14, [0,1,2,3,4,5,6,7,8], [⟨0, [], []⟩, ⟨1, [], []⟩, ⟨2, [], []⟩, ⟨3, [], []⟩, ⟨4, [], []⟩, ⟨5, [], []⟩, ⟨6, [], []⟩, ⟨7, [], []⟩, ⟨8, [], []⟩], .nil)] _ hK Tryd.func37 rfl (rs := [.tmp 4]) rfl Tryd.ntmps37 (by simp) Tryd.call37 (by kernel_rfl) (fun ha hb => .int _ _) (fun hb ha => ?_)
  have Ps := cellsAt_out es (NB.vpok (ha ps (by simp)))
  simp only [enc_GSignature] at Ps
  obtain ⟨h1, h2, h3⟩ := hpre
  have hss : sm s := h1
  simp only [sm_GSignature] at h1
  have hlen := sm_len h1
  have hlen2 := sm_len h2
  simp (maxSteps := 2000000) (disch := first | assumption | (refine asm_intro ?_; assumption) | exact Nat.le_add_right _ _ | exact Nat.le_refl _ | omega | (simp (disch := first | exact Nat.le_add_right _ _ | omega) only [Le_upd hb, Le_rfl, free_T hb, free_upd]; done) | fail) only [go_sem, push_cast, and_pos, Le_updF, Le_upd hb, free_T hb, Ps.nil, Ps.fldL (m := 1) rfl, Ps.ldL (m := 1) rfl, Ps.ld0L (m := 1) rfl, Ps.cellsL (m := 1) rfl, Ps.cellsOL (m := 1) rfl]
  refine ⟨fun hq => ?_, fun hq => by unfold ordG; rw [if_pos (by omega)]⟩
  have hs : ordG s order = if order.any (fun n => !isSym s n) = true then 3 else if order.Nodup then 0 else 6 := by unfold ordG; rw [if_neg (by omega)]
  rw [hs]
  refine tr_for (fun i => ∀ b, b < i → ∀ y, order[b]? = some y → (!isSym s y) = false) (order.length) (fun i => [(0, ps), (1, lst order), (5, .int .i64 i)]) (by simp) (by simp only [go_sem, push_cast, and_pos, Le_updF]) ?_
  intro i Bi hIi hii hBi
  refine vq_conv pok (E := ((Env.base _).add 52 _ W52_ok)) (PL := [(14, [0,1,2,3,4,5,6,7,8], [⟨0, [], []⟩, ⟨1, [], []⟩, ⟨2, [], []⟩, ⟨3, [], []⟩, ⟨4, [], []⟩, ⟨5, [], []⟩, ⟨6, [], []⟩, ⟨7, [], []⟩, ⟨8, [], []⟩], .nil)]) (by kernel_rfl) ?_
  rcases Nat.lt_or_ge i (order.length) with hlti | hgei
  · have e1 : order[i]? = some order[i] := List.getElem?_eq_getElem hlti
    have hr : R64 order[i] := h3 _ (List.getElem_mem hlti)
    simp (maxSteps := 2000000) (disch := first | assumption | (refine asm_intro ?_; assumption) | exact Nat.le_add_right _ _ | exact Nat.le_refl _ | omega | (simp (disch := first | exact Nat.le_add_right _ _ | omega) only [Le_upd hb, Le_rfl, free_T hb, free_upd]; done) | fail) only [go_sem, push_cast, and_pos, Le_updF, Le_upd hb, free_T hb, Ps.nil, Ps.fldL (m := 1) rfl, Ps.ldL (m := 1) rfl, Ps.ld0L (m := 1) rfl, Ps.cellsL (m := 1) rfl, Ps.cellsOL (m := 1) rfl, e1, hss, hr]
    refine ⟨fun h => fun b hb1 y hb2 => ?_, fun h => ?_⟩
    · by_cases e : b = i
      · subst e; rw [e1] at hb2; cases hb2; simpa using h
      · exact hIi b (by omega) y hb2
    · rw [if_pos (any_hit hlti (by simpa using h))]
  · simp (maxSteps := 2000000) (disch := first | assumption | (refine asm_intro ?_; assumption) | exact Nat.le_add_right _ _ | exact Nat.le_refl _ | omega | (simp (disch := first | exact Nat.le_add_right _ _ | omega) only [Le_upd hb, Le_rfl, free_T hb, free_upd]; done) | fail) only [go_sem, push_cast, and_pos, Le_updF, Le_upd hb, free_T hb, Ps.nil, Ps.fldL (m := 1) rfl, Ps.ldL (m := 1) rfl, Ps.ld0L (m := 1) rfl, Ps.cellsL (m := 1) rfl, Ps.cellsOL (m := 1) rfl]
    refine vq_conv pok (E := ((Env.base _).add 52 _ W52_ok)) (PL := [(14, [0,1,2,3,4,5,6,7,8], [⟨0, [], []⟩, ⟨1, [], []⟩, ⟨2, [], []⟩, ⟨3, [], []⟩, ⟨4, [], []⟩, ⟨5, [], []⟩, ⟨6, [], []⟩, ⟨7, [], []⟩, ⟨8, [], []⟩], .nil)]) (by kernel_rfl) ?_
    simp (maxSteps := 2000000) (disch := first | assumption | (refine asm_intro ?_; assumption) | exact Nat.le_add_right _ _ | exact Nat.le_refl _ | omega | (simp (disch := first | exact Nat.le_add_right _ _ | omega) only [Le_upd hb, Le_rfl, free_T hb, free_upd]; done) | fail) only [go_sem, push_cast, and_pos, Le_updF, Le_upd hb, free_T hb, Ps.nil, Ps.fldL (m := 1) rfl, Ps.ldL (m := 1) rfl, Ps.ld0L (m := 1) rfl, Ps.cellsL (m := 1) rfl, Ps.cellsOL (m := 1) rfl]
    rw [if_neg (by rw [any_false fun j hj x hx => hIi j (by omega) x hx]; simp)]
    refine tr_for (fun j => ∀ a b x y, b < a → a < j → order[a]? = some x → order[b]? = some y → x ≠ y) (order.length) (fun j => [(0, ps), (1, lst order), (6, .int .i64 j)]) (by simp) (by simp only [go_sem, push_cast, and_pos, Le_updF]) ?_
    intro j Bj hIj hij hBj
    refine vq_conv pok (E := ((Env.base _).add 52 _ W52_ok)) (PL := [(14, [0,1,2,3,4,5,6,7,8], [⟨0, [], []⟩, ⟨1, [], []⟩, ⟨2, [], []⟩, ⟨3, [], []⟩, ⟨4, [], []⟩, ⟨5, [], []⟩, ⟨6, [], []⟩, ⟨7, [], []⟩, ⟨8, [], []⟩], .nil)]) (by kernel_rfl) ?_
    rcases Nat.lt_or_ge j (order.length) with hltj | hgej
    · have e1 : order[j]? = some order[j] := List.getElem?_eq_getElem hltj
      simp (maxSteps := 2000000) (disch := first | assumption | (refine asm_intro ?_; assumption) | exact Nat.le_add_right _ _ | exact Nat.le_refl _ | omega | (simp (disch := first | exact Nat.le_add_right _ _ | omega) only [Le_upd hb, Le_rfl, free_T hb, free_upd]; done) | fail) only [go_sem, push_cast, and_pos, Le_updF, Le_upd hb, free_T hb, Ps.nil, Ps.fldL (m := 1) rfl, Ps.ldL (m := 1) rfl, Ps.ld0L (m := 1) rfl, Ps.cellsL (m := 1) rfl, Ps.cellsOL (m := 1) rfl, e1]
      refine tr_for (fun k => ∀ b y, b < k → order[b]? = some y → order[j] ≠ y) (j) (fun k => [(0, ps), (1, lst order), (6, .int .i64 j), (7, .int .i64 k)]) (by simp) (by simp only [go_sem, push_cast, and_pos, Le_updF]) ?_
      intro k Bk hIk hik hBk
      refine vq_conv pok (E := ((Env.base _).add 52 _ W52_ok)) (PL := [(14, [0,1,2,3,4,5,6,7,8], [⟨0, [], []⟩, ⟨1, [], []⟩, ⟨2, [], []⟩, ⟨3, [], []⟩, ⟨4, [], []⟩, ⟨5, [], []⟩, ⟨6, [], []⟩, ⟨7, [], []⟩, ⟨8, [], []⟩], .nil)]) (by kernel_rfl) ?_
      rcases Nat.lt_or_ge k (j) with hltk | hgek
      · have e2 : order[k]? = some (order[k]'(by omega)) := List.getElem?_eq_getElem _
        simp (maxSteps := 2000000) (disch := first | assumption | (refine asm_intro ?_; assumption) | exact Nat.le_add_right _ _ | exact Nat.le_refl _ | omega | (simp (disch := first | exact Nat.le_add_right _ _ | omega) only [Le_upd hb, Le_rfl, free_T hb, free_upd]; done) | fail) only [go_sem, push_cast, and_pos, Le_updF, Le_upd hb, free_T hb, Ps.nil, Ps.fldL (m := 1) rfl, Ps.ldL (m := 1) rfl, Ps.ld0L (m := 1) rfl, Ps.cellsL (m := 1) rfl, Ps.cellsOL (m := 1) rfl, e1, e2]
        refine ⟨fun h => ?_, fun h => fun b y hb1 hb2 => ?_⟩
        · rw [if_neg (nodup_not hltk hltj h)]
        · by_cases e : b = k
          · subst e; rw [e2] at hb2; cases hb2; exact h
          · exact hIk b y (by omega) hb2
      · simp (maxSteps := 2000000) (disch := first | assumption | (refine asm_intro ?_; assumption) | exact Nat.le_add_right _ _ | exact Nat.le_refl _ | omega | (simp (disch := first | exact Nat.le_add_right _ _ | omega) only [Le_upd hb, Le_rfl, free_T hb, free_upd]; done) | fail) only [go_sem, push_cast, and_pos, Le_updF, Le_upd hb, free_T hb, Ps.nil, Ps.fldL (m := 1) rfl, Ps.ldL (m := 1) rfl, Ps.ld0L (m := 1) rfl, Ps.cellsL (m := 1) rfl, Ps.cellsOL (m := 1) rfl]
        intro a b x y h1 h2 h3 h4
        by_cases e : a = j
        · subst e; rw [e1] at h3; cases h3; exact hIk b y (by omega) h4
        · exact hIj a b x y h1 (by omega) h3 h4
    · simp (maxSteps := 2000000) (disch := first | assumption | (refine asm_intro ?_; assumption) | exact Nat.le_add_right _ _ | exact Nat.le_refl _ | omega | (simp (disch := first | exact Nat.le_add_right _ _ | omega) only [Le_upd hb, Le_rfl, free_T hb, free_upd]; done) | fail) only [go_sem, push_cast, and_pos, Le_updF, Le_upd hb, free_T hb, Ps.nil, Ps.fldL (m := 1) rfl, Ps.ldL (m := 1) rfl, Ps.ld0L (m := 1) rfl, Ps.cellsL (m := 1) rfl, Ps.cellsOL (m := 1) rfl]
      refine vq_conv pok (E := ((Env.base _).add 52 _ W52_ok)) (PL := [(14, [0,1,2,3,4,5,6,7,8], [⟨0, [], []⟩, ⟨1, [], []⟩, ⟨2, [], []⟩, ⟨3, [], []⟩, ⟨4, [], []⟩, ⟨5, [], []⟩, ⟨6, [], []⟩, ⟨7, [], []⟩, ⟨8, [], []⟩], .nil)]) (by kernel_rfl) ?_
      simp (maxSteps := 2000000) (disch := first | assumption | (refine asm_intro ?_; assumption) | exact Nat.le_add_right _ _ | exact Nat.le_refl _ | omega | (simp (disch := first | exact Nat.le_add_right _ _ | omega) only [Le_upd hb, Le_rfl, free_T hb, free_upd]; done) | fail) only [go_sem, push_cast, and_pos, Le_updF, Le_upd hb, free_T hb, Ps.nil, Ps.fldL (m := 1) rfl, Ps.ldL (m := 1) rfl, Ps.ld0L (m := 1) rfl, Ps.cellsL (m := 1) rfl, Ps.cellsOL (m := 1) rfl]
      rw [if_pos (nodup_of fun i j x y h1 h2 h3 => hIj i j x y h1 (by have := (List.getElem?_eq_some_iff.1 h2).1; omega) h2 h3)]
def W24 : Trans := fun args H Bd K => ∃ (s : GSignature) (order : List Int), args = [.agg (enc (s)).toArray, lst (order)] ∧ ((sm s ∧ sm order ∧ rg order) ∧ K (.int .i64 (ordF s order)) H Bd)
@[go_sem ↓] theorem W24_eq (s_symbols : List GSymbol) (order : List Int) (H : AH) (Bd : Nat) (K : Value → AH → Nat → Prop) : W24 [.agg #[lst (s_symbols)], lst (order)] H Bd K = ((sm (GSignature.mk s_symbols) ∧ sm order ∧ rg order) ∧ K (.int .i64 (ordF (GSignature.mk s_symbols) order)) H Bd) := by
  refine propext ⟨fun h => ?_, fun h => ⟨_, _, rfl, h⟩⟩
  obtain ⟨s', order', e, h⟩ := h
  obtain ⟨ssymbols'⟩ := s'
  skip
  simp only [enc_GSignature, List.cons.injEq, Value.agg.injEq, toArr_inj, Value.int.injEq, Value.bool.injEq, Value.string.injEq, Value.slice.injEq, Value.pointer.injEq, Option.some.injEq, Addr.mk.injEq, lst_inj, true_and, and_true] at e
  obtain ⟨rfl, rfl⟩ := e
  exact h
theorem W24_ok : OK 24 W24 := by
  rintro args H Bd K ⟨s, order, rfl, hpre, hK⟩
  refine fn_pure pok (((Env.base _).add 36 _ W36_ok).add 37 _ W37_ok) [] _ hK Tryd.func24 rfl (rs := [.tmp 4]) rfl Tryd.ntmps24 (by simp) Tryd.call24 (by kernel_rfl) (fun ha hb => .int _ _) (fun hb ha => ?_)
  obtain ⟨h1, h2, h3⟩ := hpre
  simp (maxSteps := 2000000) (disch := first | assumption | (refine asm_intro ?_; assumption) | exact Nat.le_add_right _ _ | exact Nat.le_refl _ | omega | (simp (disch := first | exact Nat.le_add_right _ _ | omega) only [Le_upd hb, Le_rfl, free_T hb, free_upd]; done) | fail) only [go_sem, push_cast, and_pos, Le_updF, Le_upd hb, free_T hb, h1, h2, h3]
  unfold ordF
  all_goals first | done | trivial | ((try simp only [Cnp, Imp]); grind)
def V25 : Trans := fun args H Bd K => ∃ (s : GSignature) (order : List Int), args = [.agg (enc (s)).toArray, lst (order)] ∧ ((sm s ∧ sm order ∧ sigF s = 0 ∧ ordG s order = 0) ∧ K (.string (joinB (order.map (nameAt s)) (⟨#[44]⟩ : ByteArray))) H Bd)
@[go_sem ↓] theorem V25_eq (s_symbols : List GSymbol) (order : List Int) (H : AH) (Bd : Nat) (K : Value → AH → Nat → Prop) : V25 [.agg #[lst (s_symbols)], lst (order)] H Bd K = ((sm (GSignature.mk s_symbols) ∧ sm order ∧ sigF (GSignature.mk s_symbols) = 0 ∧ ordG (GSignature.mk s_symbols) order = 0) ∧ K (.string (joinB (order.map (nameAt (GSignature.mk s_symbols))) (⟨#[44]⟩ : ByteArray))) H Bd) := by
  refine propext ⟨fun h => ?_, fun h => ⟨_, _, rfl, h⟩⟩
  obtain ⟨s', order', e, h⟩ := h
  obtain ⟨ssymbols'⟩ := s'
  skip
  simp only [enc_GSignature, enc_int, enc_str, enc_list, enc_bool, enc_byte, List.cons.injEq, Value.agg.injEq, toArr_inj, Value.int.injEq, Value.bool.injEq, Value.string.injEq, Value.slice.injEq, Value.pointer.injEq, Option.some.injEq, Addr.mk.injEq, lst_inj, true_and, and_true] at e
  obtain ⟨rfl, rfl⟩ := e
  exact h
def W25 : Trans := fun args H Bd K => ∃ (ps vorder : Value), args = [ps, vorder] ∧ Yld (cellsAt H 1 ps) fun cs => callW V25 [.agg cs.toArray, vorder] H Bd K
@[go_sem ↓] theorem W25_eq (ps vorder : Value) (H : AH) (Bd : Nat) (K : Value → AH → Nat → Prop) : W25 [ps, vorder] H Bd K = (Yld (cellsAt H 1 ps) fun cs => callW V25 (idS [.agg cs.toArray, vorder]) H Bd K) := by
  refine propext ⟨fun h => ?_, fun h => ⟨_, _, rfl, h⟩⟩
  obtain ⟨ps', vorder', e, h⟩ := h
  simp only [List.cons.injEq, and_true] at e
  obtain ⟨rfl, rfl⟩ := e
  exact h
set_option maxHeartbeats 2000000 in
theorem W25_ok : OK 25 W25 := by
  rintro args H Bd K ⟨ps, vorder, rfl, cs, es, h⟩
  obtain ⟨s, order, e, hpre, hK⟩ := h
  simp only [List.cons.injEq, and_true] at e
  obtain ⟨Es, rfl⟩ := e
  obtain rfl := agg_inj Es
  refine fn_pure pok (Env.base _) [(7, [0,1,2,3,4,5,6,7,8,9,10,11,12,13], [⟨0, [], []⟩, ⟨1, [], []⟩, ⟨2, [], []⟩, ⟨3, [], []⟩, ⟨4, [], []⟩, ⟨5, [], []⟩, ⟨6, [], []⟩, ⟨7, [], []⟩, ⟨8, [], []⟩, ⟨9, [], []⟩, ⟨10, [], []⟩, ⟨11, [], []⟩, ⟨12, [], []⟩, ⟨13, [], []⟩], .nil)] _ hK Tryd.func25 rfl (rs := [.tmp 4]) rfl Tryd.ntmps25 (by simp) Tryd.call25 (by kernel_rfl) (fun ha hb => .string _) (fun hb ha => ?_)
  have Ps := cellsAt_out es (NB.vpok (ha ps (by simp)))
  simp only [enc_GSignature] at Ps
  obtain ⟨h1, h2, h3, h4⟩ := hpre
  have hs := sig_ok h3
  have ho := ord_ok h4
  have hl := hs.len
  have hl2 := ho.len
  simp (maxSteps := 2000000) (disch := first | assumption | (refine asm_intro ?_; assumption) | exact Nat.le_add_right _ _ | exact Nat.le_refl _ | omega | (simp (disch := first | exact Nat.le_add_right _ _ | omega) only [Le_upd hb, Le_rfl, free_T hb, free_upd]; done) | fail) only [go_sem, push_cast, and_pos, Le_updF, Le_upd hb, free_T hb, Ps.nil, Ps.fldL (m := 1) rfl, Ps.ldL (m := 1) rfl, Ps.ld0L (m := 1) rfl, Ps.cellsL (m := 1) rfl, Ps.cellsOL (m := 1) rfl]
  refine tr_for (fun i => True) (order.length) (fun i => [(0, ps), (1, lst order), (5, .string (joinB ((order.take i).map (nameAt s)) (⟨#[44]⟩ : ByteArray))), (6, .int .i64 i)]) (trivial) (by simp only [go_sem, push_cast, and_pos, Le_updF, List.take_zero, List.map_nil, joinB_nil]) ?_
  intro i Bi hIi hii hBi
  refine vq_conv pok (E := (Env.base _)) (PL := [(7, [0,1,2,3,4,5,6,7,8,9,10,11,12,13], [⟨0, [], []⟩, ⟨1, [], []⟩, ⟨2, [], []⟩, ⟨3, [], []⟩, ⟨4, [], []⟩, ⟨5, [], []⟩, ⟨6, [], []⟩, ⟨7, [], []⟩, ⟨8, [], []⟩, ⟨9, [], []⟩, ⟨10, [], []⟩, ⟨11, [], []⟩, ⟨12, [], []⟩, ⟨13, [], []⟩], .nil)]) (by kernel_rfl) ?_
  rcases Nat.lt_or_ge i (order.length) with hlti | hgei
  · have e1 : order[i]? = some order[i] := List.getElem?_eq_getElem hlti
    have e3 := ho.sym _ (List.getElem_mem hlti)
    have e4 : order[i].toNat < s.symbols.length := by omega
    have e2 : s.symbols[order[i].toNat]? = some s.symbols[order[i].toNat] := List.getElem?_eq_getElem e4
    have hnm := isNm_size (hs.nm _ (List.getElem_mem e4)).1
    have hsz := joinB_size ((order.take i).map (nameAt s)) (⟨#[44]⟩ : ByteArray) 3 (fun x hx => by
      obtain ⟨n, hn, rfl⟩ := List.mem_map.1 hx
      exact nameAt_size hs n)
    rw [List.length_map, List.length_take] at hsz
    have hc : ((⟨#[44]⟩ : ByteArray) : ByteArray).size = 1 := rfl
    rw [hc] at hsz
    have hst : joinB ((order.take (i + 1)).map (nameAt s)) (⟨#[44]⟩ : ByteArray) = (if (order.take i).map (nameAt s) = [] then ⟨#[]⟩ else joinB ((order.take i).map (nameAt s)) (⟨#[44]⟩ : ByteArray) ++ (⟨#[44]⟩ : ByteArray)) ++ s.symbols[order[i].toNat].name := by
      rw [List.take_succ_eq_append_getElem hlti, List.map_append, List.map_cons, List.map_nil, joinB_snoc]
      congr 1
      simp [nameAt, e2]
    simp (maxSteps := 2000000) (disch := first | assumption | (refine asm_intro ?_; assumption) | exact Nat.le_add_right _ _ | exact Nat.le_refl _ | omega | (simp (disch := first | exact Nat.le_add_right _ _ | omega) only [Le_upd hb, Le_rfl, free_T hb, free_upd]; done) | fail) only [go_sem, push_cast, and_pos, Le_updF, Le_upd hb, free_T hb, Ps.nil, Ps.fldL (m := 1) rfl, Ps.ldL (m := 1) rfl, Ps.ld0L (m := 1) rfl, Ps.cellsL (m := 1) rfl, Ps.cellsOL (m := 1) rfl, e1, e2, e3]
    have hi0 : (order.take i).map (nameAt s) = [] ↔ i = 0 := by
      rw [List.map_eq_nil_iff, List.take_eq_nil_iff]
      constructor
      · rintro (h | h)
        · exact h
        · subst h; simp at hlti
      · exact .inl
    have hcs : (#[44] : Array UInt8).size = 1 := rfl
    refine ⟨fun h => ?_, fun h => ?_⟩
    · rw [if_neg (by rw [hi0]; omega)] at hst
      have := hst.symm
      exact ⟨by omega, by omega, this⟩
    · rw [if_pos (by rw [hi0]; omega)] at hst
      have h0 : i = 0 := by omega
      subst h0
      first | exact hst.symm | exact ⟨by omega, hst.symm⟩
  · simp (maxSteps := 2000000) (disch := first | assumption | (refine asm_intro ?_; assumption) | exact Nat.le_add_right _ _ | exact Nat.le_refl _ | omega | (simp (disch := first | exact Nat.le_add_right _ _ | omega) only [Le_upd hb, Le_rfl, free_T hb, free_upd]; done) | fail) only [go_sem, push_cast, and_pos, Le_updF, Le_upd hb, free_T hb, Ps.nil, Ps.fldL (m := 1) rfl, Ps.ldL (m := 1) rfl, Ps.ld0L (m := 1) rfl, Ps.cellsL (m := 1) rfl, Ps.cellsOL (m := 1) rfl]
    refine vq_conv pok (E := (Env.base _)) (PL := [(7, [0,1,2,3,4,5,6,7,8,9,10,11,12,13], [⟨0, [], []⟩, ⟨1, [], []⟩, ⟨2, [], []⟩, ⟨3, [], []⟩, ⟨4, [], []⟩, ⟨5, [], []⟩, ⟨6, [], []⟩, ⟨7, [], []⟩, ⟨8, [], []⟩, ⟨9, [], []⟩, ⟨10, [], []⟩, ⟨11, [], []⟩, ⟨12, [], []⟩, ⟨13, [], []⟩], .nil)]) (by kernel_rfl) ?_
    simp (maxSteps := 2000000) (disch := first | assumption | (refine asm_intro ?_; assumption) | exact Nat.le_add_right _ _ | exact Nat.le_refl _ | omega | (simp (disch := first | exact Nat.le_add_right _ _ | omega) only [Le_upd hb, Le_rfl, free_T hb, free_upd]; done) | fail) only [go_sem, push_cast, and_pos, Le_updF, Le_upd hb, free_T hb, Ps.nil, Ps.fldL (m := 1) rfl, Ps.ldL (m := 1) rfl, Ps.ld0L (m := 1) rfl, Ps.cellsL (m := 1) rfl, Ps.cellsOL (m := 1) rfl]
    rw [List.take_of_length_le hgei]
def W11 : Trans := fun args H Bd K => ∃ (s : GSignature) (order : List Int), args = [.agg (enc (s)).toArray, lst (order)] ∧ ((sm s ∧ sm order ∧ rg order) ∧ K (.agg (enc (ordTextR s order)).toArray) H Bd)
@[go_sem ↓] theorem W11_eq (s_symbols : List GSymbol) (order : List Int) (H : AH) (Bd : Nat) (K : Value → AH → Nat → Prop) : W11 [.agg #[lst (s_symbols)], lst (order)] H Bd K = ((sm (GSignature.mk s_symbols) ∧ sm order ∧ rg order) ∧ K (.agg (enc (ordTextR (GSignature.mk s_symbols) order)).toArray) H Bd) := by
  refine propext ⟨fun h => ?_, fun h => ⟨_, _, rfl, h⟩⟩
  obtain ⟨s', order', e, h⟩ := h
  obtain ⟨ssymbols'⟩ := s'
  skip
  simp only [enc_GSignature, List.cons.injEq, Value.agg.injEq, toArr_inj, Value.int.injEq, Value.bool.injEq, Value.string.injEq, Value.slice.injEq, Value.pointer.injEq, Option.some.injEq, Addr.mk.injEq, lst_inj, true_and, and_true] at e
  obtain ⟨rfl, rfl⟩ := e
  exact h
theorem W11_ok : OK 11 W11 := by
  rintro args H Bd K ⟨s, order, rfl, hpre, hK⟩
  refine fn_pure pok (((Env.base _).add 24 _ W24_ok).add 25 _ W25_ok) [] _ hK Tryd.func11 rfl (rs := [.cell 4 35]) rfl Tryd.ntmps11 (by simp) Tryd.call11 (by kernel_rfl) (fun ha hb => agg_nb _ _) (fun hb ha => ?_)
  obtain ⟨h1, h2, h3⟩ := hpre
  simp (maxSteps := 2000000) (disch := first | assumption | (refine asm_intro ?_; assumption) | exact Nat.le_add_right _ _ | exact Nat.le_refl _ | omega | (simp (disch := first | exact Nat.le_add_right _ _ | omega) only [Le_upd hb, Le_rfl, free_T hb, free_upd]; done) | fail) only [go_sem, push_cast, and_pos, Le_updF, Le_upd hb, free_T hb, h1, h2, h3]
  refine ⟨fun h => ⟨ordF_zero h, ?_⟩, fun h => ?_⟩
  · unfold ordTextR; rw [if_neg (by simp [h])]; trivial
  · unfold ordTextR; rw [if_pos h]; trivial
def W53 : Trans := fun args H Bd K => ∃ (s : ByteArray), args = [.string (s)] ∧ ((s.size ≤ 281474976710656) ∧ K (.bool (isNm s)) H Bd)
@[go_sem ↓] theorem W53_eq (s : ByteArray) (H : AH) (Bd : Nat) (K : Value → AH → Nat → Prop) : W53 [.string (s)] H Bd K = ((s.size ≤ 281474976710656) ∧ K (.bool (isNm s)) H Bd) := by
  refine propext ⟨fun h => ?_, fun h => ⟨_, rfl, h⟩⟩
  obtain ⟨s', e, h⟩ := h
  skip
  simp only [List.cons.injEq, Value.agg.injEq, toArr_inj, Value.int.injEq, Value.bool.injEq, Value.string.injEq, Value.slice.injEq, Value.pointer.injEq, Option.some.injEq, Addr.mk.injEq, lst_inj, true_and, and_true] at e
  obtain rfl := e
  exact h
theorem W53_ok : OK 53 W53 := by
  rintro args H Bd K ⟨s, rfl, hpre, hK⟩
  refine fn_pure pok ((Env.base _).add 65 _ W65_ok) [(1, [], [], (.k 4 (.grp true 6 9 3 [7, 8, 9] 10 none (.k 3 .nil) (.k 1 (.grp true 11 14 3 [12, 13, 14] 15 none (.k 3 .nil) (.k 1 .nil))))))] _ hK Tryd.func53 rfl (rs := [.tmp 2]) rfl Tryd.ntmps53 (by simp) Tryd.call53 (by kernel_rfl) (fun ha hb => .bool _) (fun hb ha => ?_)
  simp (maxSteps := 2000000) (disch := first | assumption | (refine asm_intro ?_; assumption) | exact Nat.le_add_right _ _ | exact Nat.le_refl _ | omega | (simp (disch := first | exact Nat.le_add_right _ _ | omega) only [Le_upd hb, Le_rfl, free_T hb, free_upd]; done) | fail) only [go_sem, push_cast, and_pos, Le_updF, Le_upd hb, free_T hb, hpre]
  exact ⟨fun _ _ => ⟨by decide, az_lt⟩, isNm_trim s⟩
def W54 : Trans := fun args H Bd K => ∃ (n : Int) (low : Int) (high : Int), args = [.int .i64 (n), .int .i64 (low), .int .i64 (high)] ∧ (K (.bool (decide (low ≤ n ∧ n ≤ high))) H Bd)
@[go_sem ↓] theorem W54_eq (n : Int) (low : Int) (high : Int) (H : AH) (Bd : Nat) (K : Value → AH → Nat → Prop) : W54 [.int .i64 (n), .int .i64 (low), .int .i64 (high)] H Bd K = (K (.bool (decide (low ≤ n ∧ n ≤ high))) H Bd) := by
  refine propext ⟨fun h => ?_, fun h => ⟨_, _, _, rfl, h⟩⟩
  obtain ⟨n', low', high', e, h⟩ := h
  skip
  skip
  skip
  simp only [List.cons.injEq, Value.agg.injEq, toArr_inj, Value.int.injEq, Value.bool.injEq, Value.string.injEq, Value.slice.injEq, Value.pointer.injEq, Option.some.injEq, Addr.mk.injEq, lst_inj, true_and, and_true] at e
  obtain ⟨rfl, rfl, rfl⟩ := e
  exact h
theorem W54_ok : OK 54 W54 := by
  rintro args H Bd K ⟨n, low, high, rfl, hK⟩
  refine fn_pure pok (Env.base _) [(1, [], [], (.k 4 (.grp true 10 13 3 [11, 12, 13] 14 none (.k 3 .nil) (.k 1 .nil))))] _ hK Tryd.func54 rfl (rs := [.tmp 6]) rfl Tryd.ntmps54 (by simp) Tryd.call54 (by kernel_rfl) (fun ha hb => .bool _) (fun hb ha => ?_)
  simp (maxSteps := 2000000) (disch := first | assumption | (refine asm_intro ?_; assumption) | exact Nat.le_add_right _ _ | exact Nat.le_refl _ | omega | (simp (disch := first | exact Nat.le_add_right _ _ | omega) only [Le_upd hb, Le_rfl, free_T hb, free_upd]; done) | fail) only [go_sem, push_cast, and_pos, Le_updF, Le_upd hb, free_T hb]
  all_goals first | done | trivial | ((try simp only [Cnp, Imp]); grind)
theorem G66 (g : Nat) (caps : Array Value) (p : GSymbol → Bool) (xs : List GSymbol) (H : AH) (Bd : Nat) (K : Value → AH → Nat → Prop) (hsm : sm xs) (hg : ∀ x ∈ xs, ∀ B, Bd ≤ B → ∀ K' : Value → AH → Nat → Prop, K' (.bool (p x)) H B → SCalls Tryd.prog g (idS ((.agg (enc (x)).toArray) :: caps.toList)) H B K') (hK : K (.int .i64 (fidx p xs)) H Bd) : SCalls Tryd.prog 66 [lst xs, .func (.func g) #[] caps] H Bd K := by
  refine fn_pure pok (Env.base _) [] _ hK Tryd.func66 rfl (rs := [.tmp 4]) rfl Tryd.ntmps66 (by simp) Tryd.call66 (by kernel_rfl) (fun ha hb => .int _ _) (fun hb ha => ?_)
  have hlen := sm_len hsm
  simp (maxSteps := 2000000) (disch := first | assumption | (refine asm_intro ?_; assumption) | exact Nat.le_add_right _ _ | exact Nat.le_refl _ | omega | (simp (disch := first | exact Nat.le_add_right _ _ | omega) only [Le_upd hb, Le_rfl, free_T hb, free_upd]; done) | fail) only [go_sem, push_cast, and_pos, Le_updF, Le_upd hb, free_T hb]
  refine tr_for (fun i => ∀ j, j < i → ∀ x, xs[j]? = some x → p x = false) (xs.length) (fun i => [(0, lst xs), (1, .func (.func g) #[] caps), (7, .int .i64 xs.length), (8, .int .i64 i)]) (by simp) (by simp only [go_sem, push_cast, and_pos, Le_updF]) ?_
  intro i Bi hIi hii hBi
  refine vq_conv pok (E := (Env.base _)) (PL := []) (by kernel_rfl) ?_
  rcases Nat.lt_or_ge i (xs.length) with hlti | hgei
  · have e1 : xs[i]? = some xs[i] := List.getElem?_eq_getElem hlti
    simp (maxSteps := 2000000) (disch := first | assumption | (refine asm_intro ?_; assumption) | exact Nat.le_add_right _ _ | exact Nat.le_refl _ | omega | (simp (disch := first | exact Nat.le_add_right _ _ | omega) only [Le_upd hb, Le_rfl, free_T hb, free_upd]; done) | fail) only [go_sem, push_cast, and_pos, Le_updF, Le_upd hb, free_T hb, e1]
    refine hg _ (List.getElem_mem hlti) _ (by omega) _ ?_
    simp (maxSteps := 2000000) (disch := first | assumption | (refine asm_intro ?_; assumption) | exact Nat.le_add_right _ _ | exact Nat.le_refl _ | omega | (simp (disch := first | exact Nat.le_add_right _ _ | omega) only [Le_upd hb, Le_rfl, free_T hb, free_upd]; done) | fail) only [go_sem, push_cast, and_pos, Le_updF, Le_upd hb, free_T hb, e1]
    exact ⟨fun h => by rw [fidx_hit hlti hIi h], fun h => fun j hj x hx => by
      by_cases e : j = i
      · subst e; rw [e1] at hx; cases hx; simpa using h
      · exact hIi j (by omega) x hx⟩
  · simp (maxSteps := 2000000) (disch := first | assumption | (refine asm_intro ?_; assumption) | exact Nat.le_add_right _ _ | exact Nat.le_refl _ | omega | (simp (disch := first | exact Nat.le_add_right _ _ | omega) only [Le_upd hb, Le_rfl, free_T hb, free_upd]; done) | fail) only [go_sem, push_cast, and_pos, Le_updF, Le_upd hb, free_T hb]
    refine vq_conv pok (E := (Env.base _)) (PL := []) (by kernel_rfl) ?_
    simp (maxSteps := 2000000) (disch := first | assumption | (refine asm_intro ?_; assumption) | exact Nat.le_add_right _ _ | exact Nat.le_refl _ | omega | (simp (disch := first | exact Nat.le_add_right _ _ | omega) only [Le_upd hb, Le_rfl, free_T hb, free_upd]; done) | fail) only [go_sem, push_cast, and_pos, Le_updF, Le_upd hb, free_T hb]
    rw [fidx_none fun j hj x hx => hIi j (by omega) x hx]
def V67 : Trans := fun args H Bd K => ∃ (x : GSymbol) (name : ByteArray), args = [.agg (enc (x)).toArray, .agg (enc (name)).toArray] ∧ (K (.bool (decide (x.name = name))) H Bd)
@[go_sem ↓] theorem V67_eq (x_name : ByteArray) (x_arity : Int) (name : ByteArray) (H : AH) (Bd : Nat) (K : Value → AH → Nat → Prop) : V67 [.agg #[.string (x_name), .int .i64 (x_arity)], .agg #[.string (name)]] H Bd K = (K (.bool (decide ((GSymbol.mk x_name x_arity).name = name))) H Bd) := by
  refine propext ⟨fun h => ?_, fun h => ⟨_, _, rfl, h⟩⟩
  obtain ⟨x', name', e, h⟩ := h
  obtain ⟨xname', xarity'⟩ := x'
  skip
  simp only [enc_GSymbol, enc_int, enc_str, enc_list, enc_bool, enc_byte, List.cons.injEq, Value.agg.injEq, toArr_inj, Value.int.injEq, Value.bool.injEq, Value.string.injEq, Value.slice.injEq, Value.pointer.injEq, Option.some.injEq, Addr.mk.injEq, lst_inj, true_and, and_true] at e
  obtain ⟨⟨rfl, rfl⟩, rfl⟩ := e
  exact h
def W67 : Trans := fun args H Bd K => ∃ (vx pname : Value), args = [vx, pname] ∧ Yld (cellsAt H 1 pname) fun cname => callW V67 [vx, .agg cname.toArray] H Bd K
@[go_sem ↓] theorem W67_eq (vx pname : Value) (H : AH) (Bd : Nat) (K : Value → AH → Nat → Prop) : W67 [vx, pname] H Bd K = (Yld (cellsAt H 1 pname) fun cname => callW V67 (idS [vx, .agg cname.toArray]) H Bd K) := by
  refine propext ⟨fun h => ?_, fun h => ⟨_, _, rfl, h⟩⟩
  obtain ⟨vx', pname', e, h⟩ := h
  simp only [List.cons.injEq, and_true] at e
  obtain ⟨rfl, rfl⟩ := e
  exact h
theorem W67_ok : OK 67 W67 := by
  rintro args H Bd K ⟨vx, pname, rfl, cname, ename, h⟩
  obtain ⟨x, name, e, hK⟩ := h
  simp only [List.cons.injEq, and_true] at e
  obtain ⟨rfl, Ename⟩ := e
  obtain rfl := agg_inj Ename
  refine fn_pure pok (Env.base _) [] _ hK Tryd.func67 rfl (rs := [.tmp 3]) rfl Tryd.ntmps67 (by simp) Tryd.call67 (by kernel_rfl) (fun ha hb => .bool _) (fun hb ha => ?_)
  have Pname := cellsAt_out ename (NB.vpok (ha pname (by simp)))
  simp only [enc_int, enc_str, enc_list, enc_bool, enc_byte] at Pname
  simp (maxSteps := 2000000) (disch := first | assumption | (refine asm_intro ?_; assumption) | exact Nat.le_add_right _ _ | exact Nat.le_refl _ | omega | (simp (disch := first | exact Nat.le_add_right _ _ | omega) only [Le_upd hb, Le_rfl, free_T hb, free_upd]; done) | fail) only [go_sem, push_cast, and_pos, Le_updF, Le_upd hb, free_T hb, Pname.nil, Pname.fldL (m := 1) rfl, Pname.ldL (m := 1) rfl, Pname.ld0L (m := 1) rfl, Pname.cellsL (m := 1) rfl, Pname.cellsOL (m := 1) rfl]
def V66_67 : Trans := fun args H Bd K => ∃ (xs : List GSymbol) (name : ByteArray), args = [lst (xs), .agg (enc (name)).toArray] ∧ ((sm xs) ∧ K (.int .i64 (fidx (fun x : GSymbol => decide (x.name = name)) xs)) H Bd)
@[go_sem ↓] theorem V66_67_eq (xs : List GSymbol) (name : ByteArray) (H : AH) (Bd : Nat) (K : Value → AH → Nat → Prop) : V66_67 [lst (xs), .agg #[.string (name)]] H Bd K = ((sm xs) ∧ K (.int .i64 (fidx (fun x : GSymbol => decide (x.name = name)) xs)) H Bd) := by
  refine propext ⟨fun h => ?_, fun h => ⟨_, _, rfl, h⟩⟩
  obtain ⟨xs', name', e, h⟩ := h
  skip
  skip
  simp only [enc_int, enc_str, enc_list, enc_bool, enc_byte, List.cons.injEq, Value.agg.injEq, toArr_inj, Value.int.injEq, Value.bool.injEq, Value.string.injEq, Value.slice.injEq, Value.pointer.injEq, Option.some.injEq, Addr.mk.injEq, lst_inj, true_and, and_true] at e
  obtain ⟨rfl, rfl⟩ := e
  exact h
def W66_67 : Trans := fun args H Bd K => ∃ (vxs pname : Value), args = [vxs, .func (.func 67) #[] #[pname]] ∧ Yld (cellsAt H 1 pname) fun cname => callW V66_67 [vxs, .agg cname.toArray] H Bd K
@[go_sem ↓] theorem W66_67_eq (vxs pname : Value) (H : AH) (Bd : Nat) (K : Value → AH → Nat → Prop) : W66_67 [vxs, .func (.func 67) #[] #[pname]] H Bd K = (Yld (cellsAt H 1 pname) fun cname => callW V66_67 (idS [vxs, .agg cname.toArray]) H Bd K) := by
  refine propext ⟨fun h => ?_, fun h => ⟨_, _, rfl, h⟩⟩
  obtain ⟨vxs', pname', e, h⟩ := h
  simp only [List.cons.injEq, Value.func.injEq, toArr_inj, List.cons.injEq, and_true, true_and] at e
  obtain ⟨rfl, rfl⟩ := e
  exact h
theorem W66_67_ok : OK 66 W66_67 := by
  rintro args H Bd K ⟨vxs, pname, rfl, cname, ename, h⟩
  obtain ⟨xs, name, e, hpre, hK⟩ := h
  simp only [List.cons.injEq, and_true] at e
  obtain ⟨rfl, Ename⟩ := e
  obtain rfl := agg_inj Ename
  refine G66 67 #[pname] (fun x : GSymbol => decide (x.name = name)) xs H Bd K hpre (fun x hx B hB K' hk => ?_) hK
  exact W67_ok _ _ _ _ ⟨_, _, rfl, _, ename, x, name, rfl, hk⟩
def W55 : Trans := fun args H Bd K => ∃ (s : GSignature) (name : ByteArray), args = [.agg (enc (s)).toArray, .string (name)] ∧ ((sm s) ∧ K (.int .i64 (symIdx s name)) H Bd)
@[go_sem ↓] theorem W55_eq (s_symbols : List GSymbol) (name : ByteArray) (H : AH) (Bd : Nat) (K : Value → AH → Nat → Prop) : W55 [.agg #[lst (s_symbols)], .string (name)] H Bd K = ((sm (GSignature.mk s_symbols)) ∧ K (.int .i64 (symIdx (GSignature.mk s_symbols) name)) H Bd) := by
  refine propext ⟨fun h => ?_, fun h => ⟨_, _, rfl, h⟩⟩
  obtain ⟨s', name', e, h⟩ := h
  obtain ⟨ssymbols'⟩ := s'
  skip
  simp only [enc_GSignature, List.cons.injEq, Value.agg.injEq, toArr_inj, Value.int.injEq, Value.bool.injEq, Value.string.injEq, Value.slice.injEq, Value.pointer.injEq, Option.some.injEq, Addr.mk.injEq, lst_inj, true_and, and_true] at e
  obtain ⟨rfl, rfl⟩ := e
  exact h
theorem W55_ok : OK 55 W55 := by
  rintro args H Bd K ⟨s, name, rfl, hpre, hK⟩
  refine fn_pure pok ((Env.base _).add 66 _ W66_67_ok) [] _ hK Tryd.func55 rfl (rs := [.tmp 4]) rfl Tryd.ntmps55 (by simp) Tryd.call55 (by kernel_rfl) (fun ha hb => .int _ _) (fun hb ha => ?_)
  simp only [sm_GSignature] at hpre
  simp (maxSteps := 2000000) (disch := first | assumption | (refine asm_intro ?_; assumption) | exact Nat.le_add_right _ _ | exact Nat.le_refl _ | omega | (simp (disch := first | exact Nat.le_add_right _ _ | omega) only [Le_upd hb, Le_rfl, free_T hb, free_upd]; done) | fail) only [go_sem, push_cast, and_pos, Le_updF, Le_upd hb, free_T hb, hpre]
  try rfl
theorem G56 (g : Nat) (caps : Array Value) (p : GSymbol → Bool) (xs : List GSymbol) (H : AH) (Bd : Nat) (K : Value → AH → Nat → Prop) (hsm : sm xs) (hg : ∀ x ∈ xs, ∀ B, Bd ≤ B → ∀ K' : Value → AH → Nat → Prop, K' (.bool (p x)) H B → SCalls Tryd.prog g (idS ((.agg (enc (x)).toArray) :: caps.toList)) H B K') (hK : K (.bool (xs.any p)) H Bd) : SCalls Tryd.prog 56 [lst xs, .func (.func g) #[] caps] H Bd K := by
  refine fn_pure pok (Env.base _) [] _ hK Tryd.func56 rfl (rs := [.tmp 4]) rfl Tryd.ntmps56 (by simp) Tryd.call56 (by kernel_rfl) (fun ha hb => .bool _) (fun hb ha => ?_)
  simp (maxSteps := 2000000) (disch := first | assumption | (refine asm_intro ?_; assumption) | exact Nat.le_add_right _ _ | exact Nat.le_refl _ | omega | (simp (disch := first | exact Nat.le_add_right _ _ | omega) only [Le_upd hb, Le_rfl, free_T hb, free_upd]; done) | fail) only [go_sem, push_cast, and_pos, Le_updF, Le_upd hb, free_T hb]
  refine G66 _ _ p xs _ _ _ hsm hg ?_
  simp (maxSteps := 2000000) (disch := first | assumption | (refine asm_intro ?_; assumption) | exact Nat.le_add_right _ _ | exact Nat.le_refl _ | omega | (simp (disch := first | exact Nat.le_add_right _ _ | omega) only [Le_upd hb, Le_rfl, free_T hb, free_upd]; done) | fail) only [go_sem, push_cast, and_pos, Le_updF, Le_upd hb, free_T hb]
  exact fidx_ge p xs
def W57 : Trans := fun args H Bd K => ∃ (x : GSymbol), args = [.agg (enc (x)).toArray] ∧ (K (.bool (decide (x.arity = 0))) H Bd)
@[go_sem ↓] theorem W57_eq (x_name : ByteArray) (x_arity : Int) (H : AH) (Bd : Nat) (K : Value → AH → Nat → Prop) : W57 [.agg #[.string (x_name), .int .i64 (x_arity)]] H Bd K = (K (.bool (decide ((GSymbol.mk x_name x_arity).arity = 0))) H Bd) := by
  refine propext ⟨fun h => ?_, fun h => ⟨_, rfl, h⟩⟩
  obtain ⟨x', e, h⟩ := h
  obtain ⟨xname', xarity'⟩ := x'
  simp only [enc_GSymbol, List.cons.injEq, Value.agg.injEq, toArr_inj, Value.int.injEq, Value.bool.injEq, Value.string.injEq, Value.slice.injEq, Value.pointer.injEq, Option.some.injEq, Addr.mk.injEq, lst_inj, true_and, and_true] at e
  obtain ⟨rfl, rfl⟩ := e
  exact h
theorem W57_ok : OK 57 W57 := by
  rintro args H Bd K ⟨x, rfl, hK⟩
  refine fn_pure pok (Env.base _) [] _ hK Tryd.func57 rfl (rs := [.tmp 2]) rfl Tryd.ntmps57 (by simp) Tryd.call57 (by kernel_rfl) (fun ha hb => .bool _) (fun hb ha => ?_)
  simp (maxSteps := 2000000) (disch := first | assumption | (refine asm_intro ?_; assumption) | exact Nat.le_add_right _ _ | exact Nat.le_refl _ | omega | (simp (disch := first | exact Nat.le_add_right _ _ | omega) only [Le_upd hb, Le_rfl, free_T hb, free_upd]; done) | fail) only [go_sem, push_cast, and_pos, Le_updF, Le_upd hb, free_T hb]
def V56_57 : Trans := fun args H Bd K => ∃ (xs : List GSymbol), args = [lst (xs)] ∧ ((sm xs) ∧ K (.bool (xs.any (fun x : GSymbol => decide (x.arity = 0)))) H Bd)
@[go_sem ↓] theorem V56_57_eq (xs : List GSymbol) (H : AH) (Bd : Nat) (K : Value → AH → Nat → Prop) : V56_57 [lst (xs)] H Bd K = ((sm xs) ∧ K (.bool (xs.any (fun x : GSymbol => decide (x.arity = 0)))) H Bd) := by
  refine propext ⟨fun h => ?_, fun h => ⟨_, rfl, h⟩⟩
  obtain ⟨xs', e, h⟩ := h
  skip
  simp only [List.cons.injEq, Value.agg.injEq, toArr_inj, Value.int.injEq, Value.bool.injEq, Value.string.injEq, Value.slice.injEq, Value.pointer.injEq, Option.some.injEq, Addr.mk.injEq, lst_inj, true_and, and_true] at e
  obtain rfl := e
  exact h
def W56_57 : Trans := fun args H Bd K => ∃ (vxs : Value), args = [vxs, .func (.func 57) #[] #[]] ∧ callW V56_57 [vxs] H Bd K
@[go_sem ↓] theorem W56_57_eq (vxs : Value) (H : AH) (Bd : Nat) (K : Value → AH → Nat → Prop) : W56_57 [vxs, .func (.func 57) #[] #[]] H Bd K = (callW V56_57 (idS [vxs]) H Bd K) := by
  refine propext ⟨fun h => ?_, fun h => ⟨_, rfl, h⟩⟩
  obtain ⟨vxs', e, h⟩ := h
  simp only [List.cons.injEq, Value.func.injEq, toArr_inj, List.cons.injEq, and_true, true_and] at e
  obtain rfl := e
  exact h
theorem W56_57_ok : OK 56 W56_57 := by
  rintro args H Bd K ⟨vxs, rfl, h⟩
  obtain ⟨xs, e, hpre, hK⟩ := h
  simp only [List.cons.injEq, and_true] at e
  obtain rfl := e
  refine G56 57 #[] (fun x : GSymbol => decide (x.arity = 0)) xs H Bd K hpre (fun x hx B hB K' hk => ?_) hK
  exact W57_ok _ _ _ _ ⟨x, rfl, hk⟩
def W39 : Trans := fun args H Bd K => ∃ (s : GSignature), args = [.agg (enc (s)).toArray] ∧ ((sm s) ∧ K (.int .i64 (sigF s)) H Bd)
@[go_sem ↓] theorem W39_eq (s_symbols : List GSymbol) (H : AH) (Bd : Nat) (K : Value → AH → Nat → Prop) : W39 [.agg #[lst (s_symbols)]] H Bd K = ((sm (GSignature.mk s_symbols)) ∧ K (.int .i64 (sigF (GSignature.mk s_symbols))) H Bd) := by
  refine propext ⟨fun h => ?_, fun h => ⟨_, rfl, h⟩⟩
  obtain ⟨s', e, h⟩ := h
  obtain ⟨ssymbols'⟩ := s'
  simp only [enc_GSignature, List.cons.injEq, Value.agg.injEq, toArr_inj, Value.int.injEq, Value.bool.injEq, Value.string.injEq, Value.slice.injEq, Value.pointer.injEq, Option.some.injEq, Addr.mk.injEq, lst_inj, true_and, and_true] at e
  obtain rfl := e
  exact h
set_option maxHeartbeats 2000000 in
theorem W39_ok : OK 39 W39 := by
  rintro args H Bd K ⟨s, rfl, hpre, hK⟩
  refine fn_pure pok (((((Env.base _).add 53 _ W53_ok).add 54 _ W54_ok).add 55 _ W55_ok).add 56 _ W56_57_ok) [(1, [], [], (.k 5 (.grp false 11 15 4 [12, 13, 14, 15] 16 none (.k 4 .nil) .nil)))] _ hK Tryd.func39 rfl (rs := [.tmp 2]) rfl Tryd.ntmps39 (by simp) Tryd.call39 (by kernel_rfl) (fun ha hb => .int _ _) (fun hb ha => ?_)
  simp only [sm_GSignature] at hpre
  have hlen := sm_len hpre
  have hss : sm s := hpre
  simp (maxSteps := 2000000) (disch := first | assumption | (refine asm_intro ?_; assumption) | exact Nat.le_add_right _ _ | exact Nat.le_refl _ | omega | (simp (disch := first | exact Nat.le_add_right _ _ | omega) only [Le_upd hb, Le_rfl, free_T hb, free_upd]; done) | fail) only [go_sem, push_cast, and_pos, Le_updF, Le_upd hb, free_T hb]
  refine ⟨fun h => by unfold sigF; rw [if_pos (by omega)], fun h1 h2 => ?_⟩
  have hs : sigF s = sigG s := by unfold sigF; rw [if_neg (by omega)]
  rw [hs]
  refine tr_for (fun i => symL (s.symbols.drop i) = symL s.symbols) (s.symbols.length) (fun i => [(1, .pointer (some ⟨Bd, 0, none⟩)), (18, lst s.symbols), (19, .int .i64 s.symbols.length), (20, .int .i64 i)]) (by simp) (by simp only [go_sem, push_cast, and_pos, Le_updF]) ?_
  intro i Bi hIi hii hBi
  refine vq_conv pok (E := (((((Env.base _).add 53 _ W53_ok).add 54 _ W54_ok).add 55 _ W55_ok).add 56 _ W56_57_ok)) (PL := [(1, [], [], (.k 5 (.grp false 11 15 4 [12, 13, 14, 15] 16 none (.k 4 .nil) .nil)))]) (by kernel_rfl) ?_
  rcases Nat.lt_or_ge i (s.symbols.length) with hlti | hgei
  · have e1 : s.symbols[i]? = some s.symbols[i] := List.getElem?_eq_getElem hlti
    have hd := List.drop_eq_getElem_cons hlti
    have hx := sm_mem hpre (List.getElem_mem hlti)
    simp only [sm_GSymbol, sm_str, sm_int, and_true] at hx
    rw [hd, symL] at hIi
    simp (maxSteps := 2000000) (disch := first | assumption | (refine asm_intro ?_; assumption) | exact Nat.le_add_right _ _ | exact Nat.le_refl _ | omega | (simp (disch := first | exact Nat.le_add_right _ _ | omega) only [Le_upd hb, Le_rfl, free_T hb, free_upd]; done) | fail) only [go_sem, push_cast, and_pos, Le_updF, Le_upd hb, free_T hb, e1, hx]
    generalize symL (List.drop (i + 1) s.symbols) = q at *
    unfold sigG
    all_goals first | done | trivial | ((try simp only [Cnp, Imp]); grind)
  · simp (maxSteps := 2000000) (disch := first | assumption | (refine asm_intro ?_; assumption) | exact Nat.le_add_right _ _ | exact Nat.le_refl _ | omega | (simp (disch := first | exact Nat.le_add_right _ _ | omega) only [Le_upd hb, Le_rfl, free_T hb, free_upd]; done) | fail) only [go_sem, push_cast, and_pos, Le_updF, Le_upd hb, free_T hb]
    refine vq_conv pok (E := (((((Env.base _).add 53 _ W53_ok).add 54 _ W54_ok).add 55 _ W55_ok).add 56 _ W56_57_ok)) (PL := [(1, [], [], (.k 5 (.grp false 11 15 4 [12, 13, 14, 15] 16 none (.k 4 .nil) .nil)))]) (by kernel_rfl) ?_
    simp (maxSteps := 2000000) (disch := first | assumption | (refine asm_intro ?_; assumption) | exact Nat.le_add_right _ _ | exact Nat.le_refl _ | omega | (simp (disch := first | exact Nat.le_add_right _ _ | omega) only [Le_upd hb, Le_rfl, free_T hb, free_upd]; done) | fail) only [go_sem, push_cast, and_pos, Le_updF, Le_upd hb, free_T hb]
    have h0 : symL s.symbols = 0 := by rw [← hIi, List.drop_of_length_le hgei]; rfl
    refine tr_for (fun j => ∀ a b x y, b < a → a < j → s.symbols[a]? = some x → s.symbols[b]? = some y → x.name ≠ y.name) (s.symbols.length) (fun j => [(1, .pointer (some ⟨Bd, 0, none⟩)), (34, lst s.symbols), (35, .int .i64 s.symbols.length), (36, .int .i64 j)]) (by simp) (by simp only [go_sem, push_cast, and_pos, Le_updF]) ?_
    intro j Bj hIj hij hBj
    refine vq_conv pok (E := (((((Env.base _).add 53 _ W53_ok).add 54 _ W54_ok).add 55 _ W55_ok).add 56 _ W56_57_ok)) (PL := [(1, [], [], (.k 5 (.grp false 11 15 4 [12, 13, 14, 15] 16 none (.k 4 .nil) .nil)))]) (by kernel_rfl) ?_
    rcases Nat.lt_or_ge j (s.symbols.length) with hltj | hgej
    · have e1 : s.symbols[j]? = some s.symbols[j] := List.getElem?_eq_getElem hltj
      simp (maxSteps := 2000000) (disch := first | assumption | (refine asm_intro ?_; assumption) | exact Nat.le_add_right _ _ | exact Nat.le_refl _ | omega | (simp (disch := first | exact Nat.le_add_right _ _ | omega) only [Le_upd hb, Le_rfl, free_T hb, free_upd]; done) | fail) only [go_sem, push_cast, and_pos, Le_updF, Le_upd hb, free_T hb, e1, hss]
      refine ⟨fun h => ?_, fun h => ?_⟩
      · intro a b x y h1 h2 h3 h4
        by_cases e : a = j
        · subst e
          rw [e1] at h3; cases h3
          rw [List.getElem?_eq_getElem (by omega)] at h4; cases h4
          exact (((symIdx_self hltj).1 h) b h1).symm
        · exact hIj a b x y h1 (by omega) h3 h4
      · have : ¬ (s.symbols.map (·.name)).Nodup := fun hn => h ((symIdx_self hltj).2 fun k hk e => nodup_map_not (f := (·.name)) hk hltj e.symm hn)
        unfold sigG
        rw [if_neg (by simp [h0]), if_pos this]
    · simp (maxSteps := 2000000) (disch := first | assumption | (refine asm_intro ?_; assumption) | exact Nat.le_add_right _ _ | exact Nat.le_refl _ | omega | (simp (disch := first | exact Nat.le_add_right _ _ | omega) only [Le_upd hb, Le_rfl, free_T hb, free_upd]; done) | fail) only [go_sem, push_cast, and_pos, Le_updF, Le_upd hb, free_T hb]
      refine vq_conv pok (E := (((((Env.base _).add 53 _ W53_ok).add 54 _ W54_ok).add 55 _ W55_ok).add 56 _ W56_57_ok)) (PL := [(1, [], [], (.k 5 (.grp false 11 15 4 [12, 13, 14, 15] 16 none (.k 4 .nil) .nil)))]) (by kernel_rfl) ?_
      simp (maxSteps := 2000000) (disch := first | assumption | (refine asm_intro ?_; assumption) | exact Nat.le_add_right _ _ | exact Nat.le_refl _ | omega | (simp (disch := first | exact Nat.le_add_right _ _ | omega) only [Le_upd hb, Le_rfl, free_T hb, free_upd]; done) | fail) only [go_sem, push_cast, and_pos, Le_updF, Le_upd hb, free_T hb, hpre]
      have h7 : (s.symbols.map (·.name)).Nodup := nodup_map fun i j x y h1 h2 h3 h4 => hIj i j x y h1 (by omega) h3 h4
      unfold sigG
      rw [if_neg (by simp [h0]), if_neg (by simp [h7])]
      all_goals first | done | trivial | ((try simp only [Cnp, Imp]); grind)
theorem G58 (g : Nat) (caps : Array Value) (p : Int → Bool) (xs : List Int) (H : AH) (Bd : Nat) (K : Value → AH → Nat → Prop) (hsm : sm xs) (hg : ∀ x ∈ xs, ∀ B, Bd ≤ B → ∀ K' : Value → AH → Nat → Prop, K' (.bool (p x)) H B → SCalls Tryd.prog g (idS ((.int .i64 (x)) :: caps.toList)) H B K') (hK : K (.int .i64 (fidx p xs)) H Bd) : SCalls Tryd.prog 58 [lst xs, .func (.func g) #[] caps] H Bd K := by
  refine fn_pure pok (Env.base _) [] _ hK Tryd.func58 rfl (rs := [.tmp 4]) rfl Tryd.ntmps58 (by simp) Tryd.call58 (by kernel_rfl) (fun ha hb => .int _ _) (fun hb ha => ?_)
  have hlen := sm_len hsm
  simp (maxSteps := 2000000) (disch := first | assumption | (refine asm_intro ?_; assumption) | exact Nat.le_add_right _ _ | exact Nat.le_refl _ | omega | (simp (disch := first | exact Nat.le_add_right _ _ | omega) only [Le_upd hb, Le_rfl, free_T hb, free_upd]; done) | fail) only [go_sem, push_cast, and_pos, Le_updF, Le_upd hb, free_T hb]
  refine tr_for (fun i => ∀ j, j < i → ∀ x, xs[j]? = some x → p x = false) (xs.length) (fun i => [(0, lst xs), (1, .func (.func g) #[] caps), (7, .int .i64 xs.length), (8, .int .i64 i)]) (by simp) (by simp only [go_sem, push_cast, and_pos, Le_updF]) ?_
  intro i Bi hIi hii hBi
  refine vq_conv pok (E := (Env.base _)) (PL := []) (by kernel_rfl) ?_
  rcases Nat.lt_or_ge i (xs.length) with hlti | hgei
  · have e1 : xs[i]? = some xs[i] := List.getElem?_eq_getElem hlti
    simp (maxSteps := 2000000) (disch := first | assumption | (refine asm_intro ?_; assumption) | exact Nat.le_add_right _ _ | exact Nat.le_refl _ | omega | (simp (disch := first | exact Nat.le_add_right _ _ | omega) only [Le_upd hb, Le_rfl, free_T hb, free_upd]; done) | fail) only [go_sem, push_cast, and_pos, Le_updF, Le_upd hb, free_T hb, e1]
    refine hg _ (List.getElem_mem hlti) _ (by omega) _ ?_
    simp (maxSteps := 2000000) (disch := first | assumption | (refine asm_intro ?_; assumption) | exact Nat.le_add_right _ _ | exact Nat.le_refl _ | omega | (simp (disch := first | exact Nat.le_add_right _ _ | omega) only [Le_upd hb, Le_rfl, free_T hb, free_upd]; done) | fail) only [go_sem, push_cast, and_pos, Le_updF, Le_upd hb, free_T hb, e1]
    exact ⟨fun h => by rw [fidx_hit hlti hIi h], fun h => fun j hj x hx => by
      by_cases e : j = i
      · subst e; rw [e1] at hx; cases hx; simpa using h
      · exact hIi j (by omega) x hx⟩
  · simp (maxSteps := 2000000) (disch := first | assumption | (refine asm_intro ?_; assumption) | exact Nat.le_add_right _ _ | exact Nat.le_refl _ | omega | (simp (disch := first | exact Nat.le_add_right _ _ | omega) only [Le_upd hb, Le_rfl, free_T hb, free_upd]; done) | fail) only [go_sem, push_cast, and_pos, Le_updF, Le_upd hb, free_T hb]
    refine vq_conv pok (E := (Env.base _)) (PL := []) (by kernel_rfl) ?_
    simp (maxSteps := 2000000) (disch := first | assumption | (refine asm_intro ?_; assumption) | exact Nat.le_add_right _ _ | exact Nat.le_refl _ | omega | (simp (disch := first | exact Nat.le_add_right _ _ | omega) only [Le_upd hb, Le_rfl, free_T hb, free_upd]; done) | fail) only [go_sem, push_cast, and_pos, Le_updF, Le_upd hb, free_T hb]
    rw [fidx_none fun j hj x hx => hIi j (by omega) x hx]
theorem G40 (g : Nat) (caps : Array Value) (p : Int → Bool) (xs : List Int) (H : AH) (Bd : Nat) (K : Value → AH → Nat → Prop) (hsm : sm xs) (hg : ∀ x ∈ xs, ∀ B, Bd ≤ B → ∀ K' : Value → AH → Nat → Prop, K' (.bool (p x)) H B → SCalls Tryd.prog g (idS ((.int .i64 (x)) :: caps.toList)) H B K') (hK : K (.bool (xs.any p)) H Bd) : SCalls Tryd.prog 40 [lst xs, .func (.func g) #[] caps] H Bd K := by
  refine fn_pure pok (Env.base _) [] _ hK Tryd.func40 rfl (rs := [.tmp 4]) rfl Tryd.ntmps40 (by simp) Tryd.call40 (by kernel_rfl) (fun ha hb => .bool _) (fun hb ha => ?_)
  simp (maxSteps := 2000000) (disch := first | assumption | (refine asm_intro ?_; assumption) | exact Nat.le_add_right _ _ | exact Nat.le_refl _ | omega | (simp (disch := first | exact Nat.le_add_right _ _ | omega) only [Le_upd hb, Le_rfl, free_T hb, free_upd]; done) | fail) only [go_sem, push_cast, and_pos, Le_updF, Le_upd hb, free_T hb]
  refine G58 _ _ p xs _ _ _ hsm hg ?_
  simp (maxSteps := 2000000) (disch := first | assumption | (refine asm_intro ?_; assumption) | exact Nat.le_add_right _ _ | exact Nat.le_refl _ | omega | (simp (disch := first | exact Nat.le_add_right _ _ | omega) only [Le_upd hb, Le_rfl, free_T hb, free_upd]; done) | fail) only [go_sem, push_cast, and_pos, Le_updF, Le_upd hb, free_T hb]
  exact fidx_ge p xs
def W42 : Trans := fun args H Bd K => ∃ (s : GSignature) (n : Int), args = [.agg (enc (s)).toArray, .int .i64 (n)] ∧ ((sm s ∧ R64 n) ∧ K (.bool (isSym s n)) H Bd)
@[go_sem ↓] theorem W42_eq (s_symbols : List GSymbol) (n : Int) (H : AH) (Bd : Nat) (K : Value → AH → Nat → Prop) : W42 [.agg #[lst (s_symbols)], .int .i64 (n)] H Bd K = ((sm (GSignature.mk s_symbols) ∧ R64 n) ∧ K (.bool (isSym (GSignature.mk s_symbols) n)) H Bd) := by
  refine propext ⟨fun h => ?_, fun h => ⟨_, _, rfl, h⟩⟩
  obtain ⟨s', n', e, h⟩ := h
  obtain ⟨ssymbols'⟩ := s'
  skip
  simp only [enc_GSignature, List.cons.injEq, Value.agg.injEq, toArr_inj, Value.int.injEq, Value.bool.injEq, Value.string.injEq, Value.slice.injEq, Value.pointer.injEq, Option.some.injEq, Addr.mk.injEq, lst_inj, true_and, and_true] at e
  obtain ⟨rfl, rfl⟩ := e
  exact h
theorem W42_ok : OK 42 W42 := by
  rintro args H Bd K ⟨s, n, rfl, hpre, hK⟩
  refine fn_pure pok ((Env.base _).add 54 _ W54_ok) [] _ hK Tryd.func42 rfl (rs := [.tmp 4]) rfl Tryd.ntmps42 (by simp) Tryd.call42 (by kernel_rfl) (fun ha hb => .bool _) (fun hb ha => ?_)
  obtain ⟨h1, h2⟩ := hpre
  simp only [sm_GSignature] at h1
  have hlen := sm_len h1
  simp (maxSteps := 2000000) (disch := first | assumption | (refine asm_intro ?_; assumption) | exact Nat.le_add_right _ _ | exact Nat.le_refl _ | omega | (simp (disch := first | exact Nat.le_add_right _ _ | omega) only [Le_upd hb, Le_rfl, free_T hb, free_upd]; done) | fail) only [go_sem, push_cast, and_pos, Le_updF, Le_upd hb, free_T hb]
  unfold isSym
  all_goals first | done | trivial | ((try simp only [Cnp, Imp]); grind)
def V41 : Trans := fun args H Bd K => ∃ (n : Int) (s : GSignature), args = [.int .i64 (n), .agg (enc (s)).toArray] ∧ ((sm s ∧ R64 n) ∧ K (.bool (!isSym s n)) H Bd)
@[go_sem ↓] theorem V41_eq (n : Int) (s_symbols : List GSymbol) (H : AH) (Bd : Nat) (K : Value → AH → Nat → Prop) : V41 [.int .i64 (n), .agg #[lst (s_symbols)]] H Bd K = ((sm (GSignature.mk s_symbols) ∧ R64 n) ∧ K (.bool (!isSym (GSignature.mk s_symbols) n)) H Bd) := by
  refine propext ⟨fun h => ?_, fun h => ⟨_, _, rfl, h⟩⟩
  obtain ⟨n', s', e, h⟩ := h
  skip
  obtain ⟨ssymbols'⟩ := s'
  simp only [enc_GSignature, enc_int, enc_str, enc_list, enc_bool, enc_byte, List.cons.injEq, Value.agg.injEq, toArr_inj, Value.int.injEq, Value.bool.injEq, Value.string.injEq, Value.slice.injEq, Value.pointer.injEq, Option.some.injEq, Addr.mk.injEq, lst_inj, true_and, and_true] at e
  obtain ⟨rfl, rfl⟩ := e
  exact h
def W41 : Trans := fun args H Bd K => ∃ (vn ps : Value), args = [vn, ps] ∧ Yld (cellsAt H 1 ps) fun cs => callW V41 [vn, .agg cs.toArray] H Bd K
@[go_sem ↓] theorem W41_eq (vn ps : Value) (H : AH) (Bd : Nat) (K : Value → AH → Nat → Prop) : W41 [vn, ps] H Bd K = (Yld (cellsAt H 1 ps) fun cs => callW V41 (idS [vn, .agg cs.toArray]) H Bd K) := by
  refine propext ⟨fun h => ?_, fun h => ⟨_, _, rfl, h⟩⟩
  obtain ⟨vn', ps', e, h⟩ := h
  simp only [List.cons.injEq, and_true] at e
  obtain ⟨rfl, rfl⟩ := e
  exact h
theorem W41_ok : OK 41 W41 := by
  rintro args H Bd K ⟨vn, ps, rfl, cs, es, h⟩
  obtain ⟨n, s, e, hpre, hK⟩ := h
  simp only [List.cons.injEq, and_true] at e
  obtain ⟨rfl, Es⟩ := e
  obtain rfl := agg_inj Es
  refine fn_pure pok ((Env.base _).add 42 _ W42_ok) [] _ hK Tryd.func41 rfl (rs := [.tmp 3]) rfl Tryd.ntmps41 (by simp) Tryd.call41 (by kernel_rfl) (fun ha hb => .bool _) (fun hb ha => ?_)
  have Ps := cellsAt_out es (NB.vpok (ha ps (by simp)))
  simp only [enc_GSignature] at Ps
  simp (maxSteps := 2000000) (disch := first | assumption | (refine asm_intro ?_; assumption) | exact Nat.le_add_right _ _ | exact Nat.le_refl _ | omega | (simp (disch := first | exact Nat.le_add_right _ _ | omega) only [Le_upd hb, Le_rfl, free_T hb, free_upd]; done) | fail) only [go_sem, push_cast, and_pos, Le_updF, Le_upd hb, free_T hb, Ps.nil, Ps.fldL (m := 1) rfl, Ps.ldL (m := 1) rfl, Ps.ld0L (m := 1) rfl, Ps.cellsL (m := 1) rfl, Ps.cellsOL (m := 1) rfl, hpre]

def V40_41 : Trans := fun args H Bd K => ∃ (xs : List Int) (s : GSignature), args = [lst (xs), .agg (enc (s)).toArray] ∧ ((sm xs ∧ ∀ n ∈ xs, sm s ∧ R64 n) ∧ K (.bool (xs.any (fun n : Int => !isSym s n))) H Bd)
@[go_sem ↓] theorem V40_41_eq (xs : List Int) (s_symbols : List GSymbol) (H : AH) (Bd : Nat) (K : Value → AH → Nat → Prop) : V40_41 [lst (xs), .agg #[lst (s_symbols)]] H Bd K = ((sm xs ∧ ∀ n ∈ xs, sm (GSignature.mk s_symbols) ∧ R64 n) ∧ K (.bool (xs.any (fun n : Int => !isSym (GSignature.mk s_symbols) n))) H Bd) := by
  refine propext ⟨fun h => ?_, fun h => ⟨_, _, rfl, h⟩⟩
  obtain ⟨xs', s', e, h⟩ := h
  skip
  obtain ⟨ssymbols'⟩ := s'
  simp only [enc_GSignature, enc_int, enc_str, enc_list, enc_bool, enc_byte, List.cons.injEq, Value.agg.injEq, toArr_inj, Value.int.injEq, Value.bool.injEq, Value.string.injEq, Value.slice.injEq, Value.pointer.injEq, Option.some.injEq, Addr.mk.injEq, lst_inj, true_and, and_true] at e
  obtain ⟨rfl, rfl⟩ := e
  exact h
def W40_41 : Trans := fun args H Bd K => ∃ (vxs ps : Value), args = [vxs, .func (.func 41) #[] #[ps]] ∧ Yld (cellsAt H 1 ps) fun cs => callW V40_41 [vxs, .agg cs.toArray] H Bd K
@[go_sem ↓] theorem W40_41_eq (vxs ps : Value) (H : AH) (Bd : Nat) (K : Value → AH → Nat → Prop) : W40_41 [vxs, .func (.func 41) #[] #[ps]] H Bd K = (Yld (cellsAt H 1 ps) fun cs => callW V40_41 (idS [vxs, .agg cs.toArray]) H Bd K) := by
  refine propext ⟨fun h => ?_, fun h => ⟨_, _, rfl, h⟩⟩
  obtain ⟨vxs', ps', e, h⟩ := h
  simp only [List.cons.injEq, Value.func.injEq, toArr_inj, List.cons.injEq, and_true, true_and] at e
  obtain ⟨rfl, rfl⟩ := e
  exact h
theorem W40_41_ok : OK 40 W40_41 := by
  rintro args H Bd K ⟨vxs, ps, rfl, cs, es, h⟩
  obtain ⟨xs, s, e, hpre, hK⟩ := h
  simp only [List.cons.injEq, and_true] at e
  obtain ⟨rfl, Es⟩ := e
  obtain rfl := agg_inj Es
  refine G40 41 #[ps] (fun n : Int => !isSym s n) xs H Bd K hpre.1 (fun x hx B hB K' hk => ?_) hK
  exact W41_ok _ _ _ _ ⟨_, _, rfl, _, es, x, s, rfl, hpre.2 x hx, hk⟩

end Go.Proofs.YtkojciapfghibaaDoor
