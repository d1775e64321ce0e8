/- YthhcemhignihlaaDoorA1 -/
import Derived.Test.YthhcemhignihlaaDoorLib
set_option linter.unusedSimpArgs false
set_option linter.unusedVariables false
set_option maxRecDepth 20000
namespace Go.Proofs.YthhcemhignihlaaDoor
open Go Go.SC
def W42 : Trans := fun args H Bd K => ∃ (x : GSymbol) (left : Int), args = [.agg (enc (x)).toArray, .int .i64 (left)] ∧ ((sm x ∧ 0 ≤ left ∧ left ≤ 1048576) ∧ K (.int .i64 (szP (tot x) left)) H Bd)
@[go_sem ↓] theorem W42_eq (x_name : ByteArray) (x_arity : Int) (left : Int) (H : AH) (Bd : Nat) (K : Value → AH → Nat → Prop) : W42 [.agg #[.string (x_name), .int .i64 (x_arity)], .int .i64 (left)] H Bd K = ((sm (GSymbol.mk x_name x_arity) ∧ 0 ≤ left ∧ left ≤ 1048576) ∧ K (.int .i64 (szP (tot (GSymbol.mk x_name x_arity)) left)) H Bd) := by
  refine propext ⟨fun h => ?_, fun h => ⟨_, _, rfl, h⟩⟩
  obtain ⟨x', left', e, h⟩ := h
  obtain ⟨xname', xarity'⟩ := x'
  skip
  simp only [enc_GSymbol, List.cons.injEq, Value.agg.injEq, toArr_inj, Value.int.injEq, Value.bool.injEq, Value.string.injEq, Value.slice.injEq, Value.func.injEq, Value.pointer.injEq, Option.some.injEq, Addr.mk.injEq, lst_inj, true_and, and_true] at e
  obtain ⟨⟨rfl, rfl⟩, rfl⟩ := e
  exact h
theorem W42_ok : OK 42 W42 := by
  rintro args H Bd K ⟨x, left, rfl, hpre, hK⟩
  refine fn_pure pok (Env.base _) [] _ hK Tryd.func42 rfl (rs := [.tmp 4]) rfl Tryd.ntmps42 (by simp) Tryd.call42 (by kernel_rfl) (fun ha hb => .int _ _) (fun hb ha => ?_)
  obtain ⟨h1, h2, h3⟩ := hpre
  simp only [sm_GSymbol, sm_str] at h1
  have q0 := h3
  have z0 : tot x.name = x.name.size := rfl
  have ez : tot x = tot x.name := by simp [tot_GSymbol]
  rw [ez]
  simp (maxSteps := 2000000) (disch := first | assumption | (refine asm_intro ?_; assumption) | exact Nat.le_add_right _ _ | exact Nat.le_refl _ | omega | (simp (disch := first | exact Nat.le_add_right _ _ | omega) only [Le_upd hb, Le_app hb, Le_rfl, free_T hb, free_upd]; done) | fail) only [go_sem, push_cast, and_pos, Le_updF, Le_upd hb, free_T hb, h1]
  rw [← z0]
  exact szP_lastI
def W24 : Trans := fun args H Bd K => ∃ (xs : List GSymbol) (left : Int), args = [lst (xs), .int .i64 (left)] ∧ ((sm xs ∧ 0 ≤ left ∧ left ≤ 1048576) ∧ K (.int .i64 (szP (tot xs) left)) H Bd)
@[go_sem ↓] theorem W24_eq (xs : List GSymbol) (left : Int) (H : AH) (Bd : Nat) (K : Value → AH → Nat → Prop) : W24 [lst (xs), .int .i64 (left)] H Bd K = ((sm xs ∧ 0 ≤ left ∧ left ≤ 1048576) ∧ K (.int .i64 (szP (tot xs) left)) H Bd) := by
  refine propext ⟨fun h => ?_, fun h => ⟨_, _, rfl, h⟩⟩
  obtain ⟨xs', left', e, h⟩ := h
  skip
  skip
  simp only [List.cons.injEq, Value.agg.injEq, toArr_inj, Value.int.injEq, Value.bool.injEq, Value.string.injEq, Value.slice.injEq, Value.func.injEq, Value.pointer.injEq, Option.some.injEq, Addr.mk.injEq, lst_inj, true_and, and_true] at e
  obtain ⟨rfl, rfl⟩ := e
  exact h
theorem W24_ok : OK 24 W24 := by
  rintro args H Bd K ⟨xs, left, rfl, hpre, hK⟩
  refine fn_pure pok ((Env.base _).add 42 _ W42_ok) [] _ hK Tryd.func24 rfl (rs := [.tmp 4]) rfl Tryd.ntmps24 (by simp) Tryd.call24 (by kernel_rfl) (fun ha hb => .int _ _) (fun hb ha => ?_)
  obtain ⟨h1, h2, h3⟩ := hpre
  have hlen := sm_len h1
  have e : tot xs = xs.length + (xs.map tot).sum := tot_list xs
  simp (maxSteps := 2000000) (disch := first | assumption | (refine asm_intro ?_; assumption) | exact Nat.le_add_right _ _ | exact Nat.le_refl _ | omega | (simp (disch := first | exact Nat.le_add_right _ _ | omega) only [Le_upd hb, Le_app hb, Le_rfl, free_T hb, free_upd]; done) | fail) only [go_sem, push_cast, and_pos, Le_updF, Le_upd hb, free_T hb]
  refine Cnp.of (fun h => by rw [e, szP_neg h]) (fun h => ?_)
  refine tr_for (fun i => 0 ≤ left - xs.length - totTo xs i) xs.length (fun i => [(0, lst xs), (1, .int .i64 (left - xs.length - totTo xs i)), (5, .int .i64 i)]) (by simp; omega) (by simp only [go_sem, push_cast, and_pos, Le_updF, totTo_zero, Int.sub_zero]) ?_
  intro i B0 hI hi hB
  refine vq_conv pok (E := ((Env.base _).add 42 _ W42_ok)) (PL := []) (by kernel_rfl) ?_
  rcases Nat.lt_or_ge i xs.length with hlt | hge
  · have e1 : xs[i]? = some xs[i] := List.getElem?_eq_getElem hlt
    have hx := sm_mem h1 (List.getElem_mem hlt)
    have hst := totTo_succ xs hlt
    skip
    simp (maxSteps := 2000000) (disch := first | assumption | (refine asm_intro ?_; assumption) | exact Nat.le_add_right _ _ | exact Nat.le_refl _ | omega | (simp (disch := first | exact Nat.le_add_right _ _ | omega) only [Le_upd hb, Le_app hb, Le_rfl, free_T hb, free_upd]; done) | fail) only [go_sem, push_cast, and_pos, Le_updF, Le_upd hb, free_T hb, e1, hx]
    exact sz_step hlt hI
  · simp (maxSteps := 2000000) (disch := first | assumption | (refine asm_intro ?_; assumption) | exact Nat.le_add_right _ _ | exact Nat.le_refl _ | omega | (simp (disch := first | exact Nat.le_add_right _ _ | omega) only [Le_upd hb, Le_app hb, Le_rfl, free_T hb, free_upd]; done) | fail) only [go_sem, push_cast, and_pos, Le_updF, Le_upd hb, free_T hb]
    refine vq_conv pok (E := ((Env.base _).add 42 _ W42_ok)) (PL := []) (by kernel_rfl) ?_
    simp (maxSteps := 2000000) (disch := first | assumption | (refine asm_intro ?_; assumption) | exact Nat.le_add_right _ _ | exact Nat.le_refl _ | omega | (simp (disch := first | exact Nat.le_add_right _ _ | omega) only [Le_upd hb, Le_app hb, Le_rfl, free_T hb, free_upd]; done) | fail) only [go_sem, push_cast, and_pos, Le_updF, Le_upd hb, free_T hb]
    exact sz_end hge hI
def W10 : Trans := fun args H Bd K => ∃ (x : GSignature) (left : Int), args = [.agg (enc (x)).toArray, .int .i64 (left)] ∧ ((sm x ∧ 0 ≤ left ∧ left ≤ 1048576) ∧ K (.int .i64 (szP (tot x) left)) H Bd)
@[go_sem ↓] theorem W10_eq (x_symbols : List GSymbol) (left : Int) (H : AH) (Bd : Nat) (K : Value → AH → Nat → Prop) : W10 [.agg #[lst (x_symbols)], .int .i64 (left)] H Bd K = ((sm (GSignature.mk x_symbols) ∧ 0 ≤ left ∧ left ≤ 1048576) ∧ K (.int .i64 (szP (tot (GSignature.mk x_symbols)) left)) H Bd) := by
  refine propext ⟨fun h => ?_, fun h => ⟨_, _, rfl, h⟩⟩
  obtain ⟨x', left', e, h⟩ := h
  obtain ⟨xsymbols'⟩ := x'
  skip
  simp only [enc_GSignature, List.cons.injEq, Value.agg.injEq, toArr_inj, Value.int.injEq, Value.bool.injEq, Value.string.injEq, Value.slice.injEq, Value.func.injEq, Value.pointer.injEq, Option.some.injEq, Addr.mk.injEq, lst_inj, true_and, and_true] at e
  obtain ⟨rfl, rfl⟩ := e
  exact h
theorem W10_ok : OK 10 W10 := by
  rintro args H Bd K ⟨x, left, rfl, hpre, hK⟩
  refine fn_pure pok ((Env.base _).add 24 _ W24_ok) [] _ hK Tryd.func10 rfl (rs := [.tmp 4]) rfl Tryd.ntmps10 (by simp) Tryd.call10 (by kernel_rfl) (fun ha hb => .int _ _) (fun hb ha => ?_)
  obtain ⟨h1, h2, h3⟩ := hpre
  simp only [sm_GSignature, sm_str] at h1
  have q0 := h3
  have q1 := szP_ub (tot x.symbols) (left := left) (by omega)
  have ez : tot x = tot x.symbols := by simp [tot_GSignature]
  rw [ez]
  simp (maxSteps := 2000000) (disch := first | assumption | (refine asm_intro ?_; assumption) | exact Nat.le_add_right _ _ | exact Nat.le_refl _ | omega | (simp (disch := first | exact Nat.le_add_right _ _ | omega) only [Le_upd hb, Le_app hb, Le_rfl, free_T hb, free_upd]; done) | fail) only [go_sem, push_cast, and_pos, Le_updF, Le_upd hb, free_T hb, h1]
  first | exact szP_last | exact szP_lastT
def W46 : Trans := fun args H Bd K => ∃ (x : GSymbol), args = [.agg (enc (x)).toArray] ∧ ((sm x ∧ tot x ≤ 1048576) ∧ K (.agg (enc (x)).toArray) H Bd)
@[go_sem ↓] theorem W46_eq (x_name : ByteArray) (x_arity : Int) (H : AH) (Bd : Nat) (K : Value → AH → Nat → Prop) : W46 [.agg #[.string (x_name), .int .i64 (x_arity)]] H Bd K = ((sm (GSymbol.mk x_name x_arity) ∧ tot (GSymbol.mk x_name x_arity) ≤ 1048576) ∧ K (.agg (enc ((GSymbol.mk x_name x_arity))).toArray) H Bd) := by
  refine propext ⟨fun h => ?_, fun h => ⟨_, rfl, h⟩⟩
  obtain ⟨x', e, h⟩ := h
  obtain ⟨xname', xarity'⟩ := x'
  simp only [enc_GSymbol, List.cons.injEq, Value.agg.injEq, toArr_inj, Value.int.injEq, Value.bool.injEq, Value.string.injEq, Value.slice.injEq, Value.func.injEq, Value.pointer.injEq, Option.some.injEq, Addr.mk.injEq, lst_inj, true_and, and_true] at e
  obtain ⟨rfl, rfl⟩ := e
  exact h
theorem W46_ok : OK 46 W46 := by
  rintro args H Bd K ⟨x, rfl, hpre, hK⟩
  refine fn_pure pok (Env.base _) [] _ hK Tryd.func46 rfl (rs := [.cell 2 68]) rfl Tryd.ntmps46 (by simp) Tryd.call46 (by kernel_rfl) (fun ha hb => agg_nb _ _) (fun hb ha => ?_)
  obtain ⟨h1, h2⟩ := hpre
  simp only [sm_GSymbol] at h1
  simp only [tot_GSymbol] at h2
  simp (maxSteps := 2000000) (disch := first | assumption | (refine asm_intro ?_; assumption) | exact Nat.le_add_right _ _ | exact Nat.le_refl _ | omega | (simp (disch := first | exact Nat.le_add_right _ _ | omega) only [Le_upd hb, Le_app hb, Le_rfl, free_T hb, free_upd]; done) | fail) only [go_sem, push_cast, and_pos, Le_updF, Le_upd hb, free_T hb, h1]
def O29 : Trans := fun args H Bd K => ∃ (xs : List GSymbol), args = [lst (xs)] ∧ ((sm xs ∧ tot xs ≤ 1048576) ∧ K (.slice (some ⟨Bd, 0, some 2⟩) (xs).length ((xs).length + 1)) (upd H Bd (some ⟨flat (xs), true⟩)) (Bd + 1))
@[go_sem ↓] theorem O29_eq (xs : List GSymbol) (H : AH) (Bd : Nat) (K : Value → AH → Nat → Prop) : O29 [lst (xs)] H Bd K = ((sm xs ∧ tot xs ≤ 1048576) ∧ K (.slice (some ⟨Bd, 0, some 2⟩) (xs).length ((xs).length + 1)) (upd H Bd (some ⟨flat (xs), true⟩)) (Bd + 1)) := by
  refine propext ⟨fun h => ?_, fun h => ⟨_, rfl, h⟩⟩
  obtain ⟨xs', e, h⟩ := h
  skip
  simp only [List.cons.injEq, Value.agg.injEq, toArr_inj, Value.int.injEq, Value.bool.injEq, Value.string.injEq, Value.slice.injEq, Value.func.injEq, Value.pointer.injEq, Option.some.injEq, Addr.mk.injEq, lst_inj, true_and, and_true] at e
  obtain rfl := e
  exact h
theorem O29_ok : OK 29 O29 := by
  rintro args H Bd K ⟨xs, rfl, hpre, hK⟩
  refine fn_own pok ((Env.base _).add 46 _ W46_ok) [] (.slice (some ⟨Bd, 0, some 2⟩) (xs).length ((xs).length + 1)) [flat (xs)] hK Tryd.func29 rfl (rs := [.tmp 2]) rfl Tryd.ntmps29 (by simp) Tryd.call29 (by kernel_rfl) (fun cells hc v hv => by simp only [List.mem_cons, List.not_mem_nil, or_false] at hc; rcases hc with rfl <;> exact flat_nb _ _ _ hv) (fun hb ha => ?_)
  obtain ⟨h1, h2⟩ := hpre
  have e : tot xs = xs.length + (xs.map tot).sum := tot_list xs
  simp (maxSteps := 2000000) (disch := first | assumption | (refine asm_intro ?_; assumption) | exact Nat.le_add_right _ _ | exact Nat.le_refl _ | omega | (simp (disch := first | exact Nat.le_add_right _ _ | omega) only [Le_upd hb, Le_app hb, Le_rfl, free_T hb, free_upd]; done) | fail) only [go_sem, push_cast, and_pos, Le_updF, Le_upd hb, free_T hb]
  refine tr_fill (α := GSymbol) hb xs (fun i => [(0, lst xs), (3, .slice (some ⟨Bd, 0, some 2⟩) xs.length (xs.length + 1)), (4, .int .i64 i)]) _ (zmake_len _ _) ⟨Nat.le_refl _, by omega⟩ (by simp only [go_sem, push_cast, and_pos, Le_updF]) (Le.refl _) ?_
  intro i L B hi hL hF hB hb'
  refine vq_conv pok (E := ((Env.base _).add 46 _ W46_ok)) (PL := []) (by kernel_rfl) ?_
  have hL' : L.length = xs.length * 2 := hL
  rcases Nat.lt_or_ge i xs.length with hlt | hge
  · have e1 : xs[i]? = some xs[i] := List.getElem?_eq_getElem hlt
    have hx := sm_mem h1 (List.getElem_mem hlt)
    have hx2 : tot xs[i] ≤ (xs.map tot).sum := tot_mem hlt
    simp (maxSteps := 2000000) (disch := first | assumption | (refine asm_intro ?_; assumption) | exact Nat.le_add_right _ _ | exact Nat.le_refl _ | omega | (simp (disch := first | exact Nat.le_add_right _ _ | omega) only [Le_upd hb, Le_app hb, Le_rfl, free_T hb, free_upd]; done) | fail) only [go_sem, push_cast, and_pos, Le_updF, Le_upd hb, free_T hb, e1, hx]
    exact ⟨_, rfl, Le.refl _⟩
  · simp (maxSteps := 2000000) (disch := first | assumption | (refine asm_intro ?_; assumption) | exact Nat.le_add_right _ _ | exact Nat.le_refl _ | omega | (simp (disch := first | exact Nat.le_add_right _ _ | omega) only [Le_upd hb, Le_app hb, Le_rfl, free_T hb, free_upd]; done) | fail) only [go_sem, push_cast, and_pos, Le_updF, Le_upd hb, free_T hb]
    have hf : L = flat xs := by
      rw [List.take_of_length_le (by rw [hL]; exact Nat.mul_le_mul_right _ hge), List.take_of_length_le hge] at hF
      exact hF
    subst hf
    refine vq_conv pok (E := ((Env.base _).add 46 _ W46_ok)) (PL := []) (by kernel_rfl) ?_
    simp (maxSteps := 2000000) (disch := first | assumption | (refine asm_intro ?_; assumption) | exact Nat.le_add_right _ _ | exact Nat.le_refl _ | omega | (simp (disch := first | exact Nat.le_add_right _ _ | omega) only [Le_upd hb, Le_app hb, Le_rfl, free_T hb, free_upd]; done) | fail) only [go_sem, push_cast, and_pos, Le_updF, Le_upd hb, free_T hb]
def O12 : Trans := fun args H Bd K => ∃ (x : GSignature), args = [.agg (enc (x)).toArray] ∧ ((sm x ∧ tot x ≤ 1048576) ∧ K (.agg #[.slice (some ⟨Bd, 0, some 2⟩) ((x).symbols).length (((x).symbols).length + 1)]) (upd H Bd (some ⟨flat ((x).symbols), true⟩)) (Bd + 1))
@[go_sem ↓] theorem O12_eq (x_symbols : List GSymbol) (H : AH) (Bd : Nat) (K : Value → AH → Nat → Prop) : O12 [.agg #[lst (x_symbols)]] H Bd K = ((sm (GSignature.mk x_symbols) ∧ tot (GSignature.mk x_symbols) ≤ 1048576) ∧ K (.agg #[.slice (some ⟨Bd, 0, some 2⟩) (((GSignature.mk x_symbols)).symbols).length ((((GSignature.mk x_symbols)).symbols).length + 1)]) (upd H Bd (some ⟨flat (((GSignature.mk x_symbols)).symbols), true⟩)) (Bd + 1)) := by
  refine propext ⟨fun h => ?_, fun h => ⟨_, rfl, h⟩⟩
  obtain ⟨x', e, h⟩ := h
  obtain ⟨xsymbols'⟩ := x'
  simp only [enc_GSignature, List.cons.injEq, Value.agg.injEq, toArr_inj, Value.int.injEq, Value.bool.injEq, Value.string.injEq, Value.slice.injEq, Value.func.injEq, Value.pointer.injEq, Option.some.injEq, Addr.mk.injEq, lst_inj, true_and, and_true] at e
  obtain rfl := e
  exact h
theorem O12_ok : OK 12 O12 := by
  rintro args H Bd K ⟨x, rfl, hpre, hK⟩
  refine fn_own pok ((Env.base _).add 29 _ O29_ok) [] (.agg #[.slice (some ⟨Bd, 0, some 2⟩) ((x).symbols).length (((x).symbols).length + 1)]) [flat ((x).symbols)] hK Tryd.func12 rfl (rs := [.cell 2 39]) rfl Tryd.ntmps12 (by simp) Tryd.call12 (by kernel_rfl) (fun cells hc v hv => by simp only [List.mem_cons, List.not_mem_nil, or_false] at hc; rcases hc with rfl <;> exact flat_nb _ _ _ hv) (fun hb ha => ?_)
  obtain ⟨h1, h2⟩ := hpre
  simp only [sm_GSignature] at h1
  simp only [tot_GSignature] at h2
  simp (maxSteps := 2000000) (disch := first | assumption | (refine asm_intro ?_; assumption) | exact Nat.le_add_right _ _ | exact Nat.le_refl _ | omega | (simp (disch := first | exact Nat.le_add_right _ _ | omega) only [Le_upd hb, Le_app hb, Le_rfl, free_T hb, free_upd]; done) | fail) only [go_sem, push_cast, and_pos, Le_updF, Le_upd hb, free_T hb, h1]
def W43 : Trans := fun args H Bd K => ∃ (s : ByteArray), args = [.string (s)] ∧ ((s.size ≤ 281474976710656) ∧ K (.bool (isNm s)) H Bd)
@[go_sem ↓] theorem W43_eq (s : ByteArray) (H : AH) (Bd : Nat) (K : Value → AH → Nat → Prop) : W43 [.string (s)] H Bd K = ((s.size ≤ 281474976710656) ∧ K (.bool (isNm s)) H Bd) := by
  refine propext ⟨fun h => ?_, fun h => ⟨_, rfl, h⟩⟩
  obtain ⟨s', e, h⟩ := h
  skip
  simp only [List.cons.injEq, Value.agg.injEq, toArr_inj, Value.int.injEq, Value.bool.injEq, Value.string.injEq, Value.slice.injEq, Value.func.injEq, Value.pointer.injEq, Option.some.injEq, Addr.mk.injEq, lst_inj, true_and, and_true] at e
  obtain rfl := e
  exact h
set_option maxHeartbeats 2000000 in
theorem W43_ok : OK 43 W43 := by
  rintro args H Bd K ⟨s, rfl, hpre, hK⟩
  refine fn_pure pok (Env.base _) [(1, [], [], (.k 4 (.grp false 7 10 3 [8, 9, 10] 11 none (.k 3 .nil) .nil))), (6, [], [], (.k 5 (.grp false 22 26 4 [23, 24, 25, 26] 27 none (.k 4 .nil) .nil)))] _ hK Tryd.func43 rfl (rs := [.tmp 2]) rfl Tryd.ntmps43 (by simp) Tryd.call43 (by kernel_rfl) (fun ha hb => .bool _) (fun hb ha => ?_)
  simp (maxSteps := 2000000) (disch := first | assumption | (refine asm_intro ?_; assumption) | exact Nat.le_add_right _ _ | exact Nat.le_refl _ | omega | (simp (disch := first | exact Nat.le_add_right _ _ | omega) only [Le_upd hb, Le_app hb, Le_rfl, free_T hb, free_upd]; done) | fail) only [go_sem, push_cast, and_pos, Le_updF, Le_upd hb, free_T hb]
  refine ⟨fun h => ?_, fun h1 h2 => ?_⟩
  · unfold isNm; grind
  refine tr_for (fun i => ∀ j, j < i → 97 ≤ byteAt s j ∧ byteAt s j ≤ 122) (s.size) (fun i => [(0, .string s), (3, .int .i64 i)]) (by simp) (by simp only [go_sem, push_cast, and_pos, Le_updF]) ?_
  intro i Bi hIi hii hBi
  refine vq_conv pok (E := (Env.base _)) (PL := [(1, [], [], (.k 4 (.grp false 7 10 3 [8, 9, 10] 11 none (.k 3 .nil) .nil))), (6, [], [], (.k 5 (.grp false 22 26 4 [23, 24, 25, 26] 27 none (.k 4 .nil) .nil)))]) (by kernel_rfl) ?_
  rcases Nat.lt_or_ge i (s.size) with hlti | hgei
  · simp (maxSteps := 2000000) (disch := first | assumption | (refine asm_intro ?_; assumption) | exact Nat.le_add_right _ _ | exact Nat.le_refl _ | omega | (simp (disch := first | exact Nat.le_add_right _ _ | omega) only [Le_upd hb, Le_app hb, Le_rfl, free_T hb, free_upd]; done) | fail) only [go_sem, push_cast, and_pos, Le_updF, Le_upd hb, free_T hb]
    unfold isNm
    all_goals first | done | trivial | ((try simp only [Cnp, Imp]); grind)
  · simp (maxSteps := 2000000) (disch := first | assumption | (refine asm_intro ?_; assumption) | exact Nat.le_add_right _ _ | exact Nat.le_refl _ | omega | (simp (disch := first | exact Nat.le_add_right _ _ | omega) only [Le_upd hb, Le_app hb, Le_rfl, free_T hb, free_upd]; done) | fail) only [go_sem, push_cast, and_pos, Le_updF, Le_upd hb, free_T hb]
    refine vq_conv pok (E := (Env.base _)) (PL := [(1, [], [], (.k 4 (.grp false 7 10 3 [8, 9, 10] 11 none (.k 3 .nil) .nil))), (6, [], [], (.k 5 (.grp false 22 26 4 [23, 24, 25, 26] 27 none (.k 4 .nil) .nil)))]) (by kernel_rfl) ?_
    simp (maxSteps := 2000000) (disch := first | assumption | (refine asm_intro ?_; assumption) | exact Nat.le_add_right _ _ | exact Nat.le_refl _ | omega | (simp (disch := first | exact Nat.le_add_right _ _ | omega) only [Le_upd hb, Le_app hb, Le_rfl, free_T hb, free_upd]; done) | fail) only [go_sem, push_cast, and_pos, Le_updF, Le_upd hb, free_T hb]
    unfold isNm
    all_goals first | done | trivial | ((try simp only [Cnp, Imp]); grind)
def W44 : Trans := fun args H Bd K => ∃ (n : Int) (low : Int) (high : Int), args = [.int .i64 (n), .int .i64 (low), .int .i64 (high)] ∧ (K (.bool (decide (low ≤ n ∧ n ≤ high))) H Bd)
@[go_sem ↓] theorem W44_eq (n : Int) (low : Int) (high : Int) (H : AH) (Bd : Nat) (K : Value → AH → Nat → Prop) : W44 [.int .i64 (n), .int .i64 (low), .int .i64 (high)] H Bd K = (K (.bool (decide (low ≤ n ∧ n ≤ high))) H Bd) := by
  refine propext ⟨fun h => ?_, fun h => ⟨_, _, _, rfl, h⟩⟩
  obtain ⟨n', low', high', e, h⟩ := h
  skip
  skip
  skip
  simp only [List.cons.injEq, Value.agg.injEq, toArr_inj, Value.int.injEq, Value.bool.injEq, Value.string.injEq, Value.slice.injEq, Value.func.injEq, Value.pointer.injEq, Option.some.injEq, Addr.mk.injEq, lst_inj, true_and, and_true] at e
  obtain ⟨rfl, rfl, rfl⟩ := e
  exact h
theorem W44_ok : OK 44 W44 := by
  rintro args H Bd K ⟨n, low, high, rfl, hK⟩
  refine fn_pure pok (Env.base _) [(1, [], [], (.k 4 (.grp true 10 13 3 [11, 12, 13] 14 none (.k 3 .nil) (.k 1 .nil))))] _ hK Tryd.func44 rfl (rs := [.tmp 6]) rfl Tryd.ntmps44 (by simp) Tryd.call44 (by kernel_rfl) (fun ha hb => .bool _) (fun hb ha => ?_)
  simp (maxSteps := 2000000) (disch := first | assumption | (refine asm_intro ?_; assumption) | exact Nat.le_add_right _ _ | exact Nat.le_refl _ | omega | (simp (disch := first | exact Nat.le_add_right _ _ | omega) only [Le_upd hb, Le_app hb, Le_rfl, free_T hb, free_upd]; done) | fail) only [go_sem, push_cast, and_pos, Le_updF, Le_upd hb, free_T hb]
  all_goals first | done | trivial | ((try simp only [Cnp, Imp]); grind)
def W25 : Trans := fun args H Bd K => ∃ (s : GSignature), args = [.agg (enc (s)).toArray] ∧ ((sm s) ∧ K (.int .i64 (sigF s)) H Bd)
@[go_sem ↓] theorem W25_eq (s_symbols : List GSymbol) (H : AH) (Bd : Nat) (K : Value → AH → Nat → Prop) : W25 [.agg #[lst (s_symbols)]] H Bd K = ((sm (GSignature.mk s_symbols)) ∧ K (.int .i64 (sigF (GSignature.mk s_symbols))) H Bd) := by
  refine propext ⟨fun h => ?_, fun h => ⟨_, rfl, h⟩⟩
  obtain ⟨s', e, h⟩ := h
  obtain ⟨ssymbols'⟩ := s'
  simp only [enc_GSignature, List.cons.injEq, Value.agg.injEq, toArr_inj, Value.int.injEq, Value.bool.injEq, Value.string.injEq, Value.slice.injEq, Value.func.injEq, Value.pointer.injEq, Option.some.injEq, Addr.mk.injEq, lst_inj, true_and, and_true] at e
  obtain rfl := e
  exact h
set_option maxHeartbeats 2000000 in
theorem W25_ok : OK 25 W25 := by
  rintro args H Bd K ⟨s, rfl, hpre, hK⟩
  refine fn_pure pok (((Env.base _).add 43 _ W43_ok).add 44 _ W44_ok) [(2, [], [], (.k 3 (.grp false 13 15 2 [14, 15] 16 none (.k 2 .nil) .nil))), (17, [0,1,2,3,4,5,6,7,8,9,10,11,12], [⟨0, [], []⟩, ⟨1, [], []⟩, ⟨2, [], []⟩, ⟨3, [], []⟩, ⟨4, [], []⟩, ⟨5, [], []⟩, ⟨6, [], []⟩, ⟨7, [], []⟩, ⟨8, [], []⟩, ⟨9, [], []⟩, ⟨10, [], []⟩, ⟨11, [], []⟩, ⟨12, [], []⟩], .nil)] _ hK Tryd.func25 rfl (rs := [.tmp 2]) rfl Tryd.ntmps25 (by simp) Tryd.call25 (by kernel_rfl) (fun ha hb => .int _ _) (fun hb ha => ?_)
  simp only [sm_GSignature] at hpre
  have hlen := sm_len hpre
  simp (maxSteps := 2000000) (disch := first | assumption | (refine asm_intro ?_; assumption) | exact Nat.le_add_right _ _ | exact Nat.le_refl _ | omega | (simp (disch := first | exact Nat.le_add_right _ _ | omega) only [Le_upd hb, Le_app hb, Le_rfl, free_T hb, free_upd]; done) | fail) only [go_sem, push_cast, and_pos, Le_updF, Le_upd hb, free_T hb]
  refine ⟨fun h => by unfold sigF; rw [if_pos (by omega)], fun h1 h2 => ?_⟩
  have hs : sigF s = sigG s := by unfold sigF; rw [if_neg (by omega)]
  rw [hs]
  refine tr_for (fun i => symL (s.symbols.drop i) = symL s.symbols) (s.symbols.length) (fun i => [(1, .pointer (some ⟨Bd, 0, none⟩)), (3, .int .i64 s.symbols.length), (4, .int .i64 i)]) (by simp) (by simp only [go_sem, push_cast, and_pos, Le_updF]) ?_
  intro i Bi hIi hii hBi
  refine vq_conv pok (E := (((Env.base _).add 43 _ W43_ok).add 44 _ W44_ok)) (PL := [(2, [], [], (.k 3 (.grp false 13 15 2 [14, 15] 16 none (.k 2 .nil) .nil))), (17, [0,1,2,3,4,5,6,7,8,9,10,11,12], [⟨0, [], []⟩, ⟨1, [], []⟩, ⟨2, [], []⟩, ⟨3, [], []⟩, ⟨4, [], []⟩, ⟨5, [], []⟩, ⟨6, [], []⟩, ⟨7, [], []⟩, ⟨8, [], []⟩, ⟨9, [], []⟩, ⟨10, [], []⟩, ⟨11, [], []⟩, ⟨12, [], []⟩], .nil)]) (by kernel_rfl) ?_
  rcases Nat.lt_or_ge i (s.symbols.length) with hlti | hgei
  · have e1 : s.symbols[i]? = some s.symbols[i] := List.getElem?_eq_getElem hlti
    have hd := List.drop_eq_getElem_cons hlti
    have hx := sm_mem hpre (List.getElem_mem hlti)
    simp only [sm_GSymbol, sm_str, sm_int, and_true] at hx
    rw [hd, symL] at hIi
    simp (maxSteps := 2000000) (disch := first | assumption | (refine asm_intro ?_; assumption) | exact Nat.le_add_right _ _ | exact Nat.le_refl _ | omega | (simp (disch := first | exact Nat.le_add_right _ _ | omega) only [Le_upd hb, Le_app hb, Le_rfl, free_T hb, free_upd]; done) | fail) only [go_sem, push_cast, and_pos, Le_updF, Le_upd hb, free_T hb, e1, hx]
    generalize symL (List.drop (i + 1) s.symbols) = q at *
    unfold sigG
    all_goals first | done | trivial | ((try simp only [Cnp, Imp]); grind)
  · simp (maxSteps := 2000000) (disch := first | assumption | (refine asm_intro ?_; assumption) | exact Nat.le_add_right _ _ | exact Nat.le_refl _ | omega | (simp (disch := first | exact Nat.le_add_right _ _ | omega) only [Le_upd hb, Le_app hb, Le_rfl, free_T hb, free_upd]; done) | fail) only [go_sem, push_cast, and_pos, Le_updF, Le_upd hb, free_T hb]
    refine vq_conv pok (E := (((Env.base _).add 43 _ W43_ok).add 44 _ W44_ok)) (PL := [(2, [], [], (.k 3 (.grp false 13 15 2 [14, 15] 16 none (.k 2 .nil) .nil))), (17, [0,1,2,3,4,5,6,7,8,9,10,11,12], [⟨0, [], []⟩, ⟨1, [], []⟩, ⟨2, [], []⟩, ⟨3, [], []⟩, ⟨4, [], []⟩, ⟨5, [], []⟩, ⟨6, [], []⟩, ⟨7, [], []⟩, ⟨8, [], []⟩, ⟨9, [], []⟩, ⟨10, [], []⟩, ⟨11, [], []⟩, ⟨12, [], []⟩], .nil)]) (by kernel_rfl) ?_
    simp (maxSteps := 2000000) (disch := first | assumption | (refine asm_intro ?_; assumption) | exact Nat.le_add_right _ _ | exact Nat.le_refl _ | omega | (simp (disch := first | exact Nat.le_add_right _ _ | omega) only [Le_upd hb, Le_app hb, Le_rfl, free_T hb, free_upd]; done) | fail) only [go_sem, push_cast, and_pos, Le_updF, Le_upd hb, free_T hb]
    have h0 : symL s.symbols = 0 := by rw [← hIi, List.drop_of_length_le hgei]; rfl
    refine tr_for (fun j => ∀ a b x y, b < a → a < j → s.symbols[a]? = some x → s.symbols[b]? = some y → x.name ≠ y.name) (s.symbols.length) (fun j => [(1, .pointer (some ⟨Bd, 0, none⟩)), (3, .int .i64 s.symbols.length), (5, .int .i64 j)]) (by simp) (by simp only [go_sem, push_cast, and_pos, Le_updF]) ?_
    intro j Bj hIj hij hBj
    refine vq_conv pok (E := (((Env.base _).add 43 _ W43_ok).add 44 _ W44_ok)) (PL := [(2, [], [], (.k 3 (.grp false 13 15 2 [14, 15] 16 none (.k 2 .nil) .nil))), (17, [0,1,2,3,4,5,6,7,8,9,10,11,12], [⟨0, [], []⟩, ⟨1, [], []⟩, ⟨2, [], []⟩, ⟨3, [], []⟩, ⟨4, [], []⟩, ⟨5, [], []⟩, ⟨6, [], []⟩, ⟨7, [], []⟩, ⟨8, [], []⟩, ⟨9, [], []⟩, ⟨10, [], []⟩, ⟨11, [], []⟩, ⟨12, [], []⟩], .nil)]) (by kernel_rfl) ?_
    rcases Nat.lt_or_ge j (s.symbols.length) with hltj | hgej
    · have e1 : s.symbols[j]? = some s.symbols[j] := List.getElem?_eq_getElem hltj
      simp (maxSteps := 2000000) (disch := first | assumption | (refine asm_intro ?_; assumption) | exact Nat.le_add_right _ _ | exact Nat.le_refl _ | omega | (simp (disch := first | exact Nat.le_add_right _ _ | omega) only [Le_upd hb, Le_app hb, Le_rfl, free_T hb, free_upd]; done) | fail) only [go_sem, push_cast, and_pos, Le_updF, Le_upd hb, free_T hb, e1]
      refine tr_for (fun k => ∀ b y, b < k → s.symbols[b]? = some y → s.symbols[j].name ≠ y.name) (j) (fun k => [(1, .pointer (some ⟨Bd, 0, none⟩)), (3, .int .i64 s.symbols.length), (5, .int .i64 j), (6, .int .i64 k)]) (by simp) (by simp only [go_sem, push_cast, and_pos, Le_updF]) ?_
      intro k Bk hIk hik hBk
      refine vq_conv pok (E := (((Env.base _).add 43 _ W43_ok).add 44 _ W44_ok)) (PL := [(2, [], [], (.k 3 (.grp false 13 15 2 [14, 15] 16 none (.k 2 .nil) .nil))), (17, [0,1,2,3,4,5,6,7,8,9,10,11,12], [⟨0, [], []⟩, ⟨1, [], []⟩, ⟨2, [], []⟩, ⟨3, [], []⟩, ⟨4, [], []⟩, ⟨5, [], []⟩, ⟨6, [], []⟩, ⟨7, [], []⟩, ⟨8, [], []⟩, ⟨9, [], []⟩, ⟨10, [], []⟩, ⟨11, [], []⟩, ⟨12, [], []⟩], .nil)]) (by kernel_rfl) ?_
      rcases Nat.lt_or_ge k (j) with hltk | hgek
      · have e2 : s.symbols[k]? = some (s.symbols[k]'(by omega)) := List.getElem?_eq_getElem _
        simp (maxSteps := 2000000) (disch := first | assumption | (refine asm_intro ?_; assumption) | exact Nat.le_add_right _ _ | exact Nat.le_refl _ | omega | (simp (disch := first | exact Nat.le_add_right _ _ | omega) only [Le_upd hb, Le_app hb, Le_rfl, free_T hb, free_upd]; done) | fail) only [go_sem, push_cast, and_pos, Le_updF, Le_upd hb, free_T hb, e1, e2]
        refine ⟨fun h => ?_, fun h => fun b y hb1 hb2 => ?_⟩
        · unfold sigG
          rw [if_neg (by simp [h0]), if_pos (nodup_map_not hltk hltj h)]
        · by_cases e : b = k
          · subst e; rw [e2] at hb2; cases hb2; exact h
          · exact hIk b y (by omega) hb2
      · simp (maxSteps := 2000000) (disch := first | assumption | (refine asm_intro ?_; assumption) | exact Nat.le_add_right _ _ | exact Nat.le_refl _ | omega | (simp (disch := first | exact Nat.le_add_right _ _ | omega) only [Le_upd hb, Le_app hb, Le_rfl, free_T hb, free_upd]; done) | fail) only [go_sem, push_cast, and_pos, Le_updF, Le_upd hb, free_T hb]
        intro a b x y h1 h2 h3 h4
        by_cases e : a = j
        · subst e; rw [e1] at h3; cases h3; exact hIk b y (by omega) h4
        · exact hIj a b x y h1 (by omega) h3 h4
    · simp (maxSteps := 2000000) (disch := first | assumption | (refine asm_intro ?_; assumption) | exact Nat.le_add_right _ _ | exact Nat.le_refl _ | omega | (simp (disch := first | exact Nat.le_add_right _ _ | omega) only [Le_upd hb, Le_app hb, Le_rfl, free_T hb, free_upd]; done) | fail) only [go_sem, push_cast, and_pos, Le_updF, Le_upd hb, free_T hb]
      refine vq_conv pok (E := (((Env.base _).add 43 _ W43_ok).add 44 _ W44_ok)) (PL := [(2, [], [], (.k 3 (.grp false 13 15 2 [14, 15] 16 none (.k 2 .nil) .nil))), (17, [0,1,2,3,4,5,6,7,8,9,10,11,12], [⟨0, [], []⟩, ⟨1, [], []⟩, ⟨2, [], []⟩, ⟨3, [], []⟩, ⟨4, [], []⟩, ⟨5, [], []⟩, ⟨6, [], []⟩, ⟨7, [], []⟩, ⟨8, [], []⟩, ⟨9, [], []⟩, ⟨10, [], []⟩, ⟨11, [], []⟩, ⟨12, [], []⟩], .nil)]) (by kernel_rfl) ?_
      simp (maxSteps := 2000000) (disch := first | assumption | (refine asm_intro ?_; assumption) | exact Nat.le_add_right _ _ | exact Nat.le_refl _ | omega | (simp (disch := first | exact Nat.le_add_right _ _ | omega) only [Le_upd hb, Le_app hb, Le_rfl, free_T hb, free_upd]; done) | fail) only [go_sem, push_cast, and_pos, Le_updF, Le_upd hb, free_T hb]
      have h7 : (s.symbols.map (·.name)).Nodup := nodup_map fun i j x y h1 h2 h3 h4 => hIj i j x y h1 (by omega) h3 h4
      have hg : sigG s = if s.symbols.any (fun x => decide (x.arity = 0)) = true then 0 else 4 := by
        unfold sigG
        rw [if_neg (by simp [h0]), if_neg (by simp [h7])]
      rw [hg]
      refine tr_for (fun l => ∀ b, b < l → ∀ y, s.symbols[b]? = some y → decide (y.arity = 0) = false) (s.symbols.length) (fun l => [(1, .pointer (some ⟨Bd, 0, none⟩)), (3, .int .i64 s.symbols.length), (7, .int .i64 l)]) (by simp) (by simp only [go_sem, push_cast, and_pos, Le_updF]) ?_
      intro l Bl hIl hil hBl
      refine vq_conv pok (E := (((Env.base _).add 43 _ W43_ok).add 44 _ W44_ok)) (PL := [(2, [], [], (.k 3 (.grp false 13 15 2 [14, 15] 16 none (.k 2 .nil) .nil))), (17, [0,1,2,3,4,5,6,7,8,9,10,11,12], [⟨0, [], []⟩, ⟨1, [], []⟩, ⟨2, [], []⟩, ⟨3, [], []⟩, ⟨4, [], []⟩, ⟨5, [], []⟩, ⟨6, [], []⟩, ⟨7, [], []⟩, ⟨8, [], []⟩, ⟨9, [], []⟩, ⟨10, [], []⟩, ⟨11, [], []⟩, ⟨12, [], []⟩], .nil)]) (by kernel_rfl) ?_
      rcases Nat.lt_or_ge l (s.symbols.length) with hltl | hgel
      · have e2 : s.symbols[l]? = some s.symbols[l] := List.getElem?_eq_getElem hltl
        simp (maxSteps := 2000000) (disch := first | assumption | (refine asm_intro ?_; assumption) | exact Nat.le_add_right _ _ | exact Nat.le_refl _ | omega | (simp (disch := first | exact Nat.le_add_right _ _ | omega) only [Le_upd hb, Le_app hb, Le_rfl, free_T hb, free_upd]; done) | fail) only [go_sem, push_cast, and_pos, Le_updF, Le_upd hb, free_T hb, e2]
        refine ⟨fun h => ?_, fun h => fun b hb1 y hb2 => ?_⟩
        · rw [if_pos (any_hit hltl (by simpa using h))]
        · by_cases e : b = l
          · subst e; rw [e2] at hb2; cases hb2; simpa using h
          · simpa using hIl b (by omega) y hb2
      · simp (maxSteps := 2000000) (disch := first | assumption | (refine asm_intro ?_; assumption) | exact Nat.le_add_right _ _ | exact Nat.le_refl _ | omega | (simp (disch := first | exact Nat.le_add_right _ _ | omega) only [Le_upd hb, Le_app hb, Le_rfl, free_T hb, free_upd]; done) | fail) only [go_sem, push_cast, and_pos, Le_updF, Le_upd hb, free_T hb]
        refine vq_conv pok (E := (((Env.base _).add 43 _ W43_ok).add 44 _ W44_ok)) (PL := [(2, [], [], (.k 3 (.grp false 13 15 2 [14, 15] 16 none (.k 2 .nil) .nil))), (17, [0,1,2,3,4,5,6,7,8,9,10,11,12], [⟨0, [], []⟩, ⟨1, [], []⟩, ⟨2, [], []⟩, ⟨3, [], []⟩, ⟨4, [], []⟩, ⟨5, [], []⟩, ⟨6, [], []⟩, ⟨7, [], []⟩, ⟨8, [], []⟩, ⟨9, [], []⟩, ⟨10, [], []⟩, ⟨11, [], []⟩, ⟨12, [], []⟩], .nil)]) (by kernel_rfl) ?_
        simp (maxSteps := 2000000) (disch := first | assumption | (refine asm_intro ?_; assumption) | exact Nat.le_add_right _ _ | exact Nat.le_refl _ | omega | (simp (disch := first | exact Nat.le_add_right _ _ | omega) only [Le_upd hb, Le_app hb, Le_rfl, free_T hb, free_upd]; done) | fail) only [go_sem, push_cast, and_pos, Le_updF, Le_upd hb, free_T hb]
        rw [if_neg (by rw [any_false fun j hj x hx => hIl j (by omega) x hx]; simp)]
def W26 : Trans := fun args H Bd K => ∃ (s : ByteArray) (n : Int), args = [.string (s), .int .u8 n] ∧ ((s.size ≤ 1048576 ∧ 0 ≤ n ∧ n < 256) ∧ K (lst (cutB s (UInt8.ofNat n.toNat))) H Bd)
@[go_sem ↓] theorem W26_eq (s : ByteArray) (n : Int) (H : AH) (Bd : Nat) (K : Value → AH → Nat → Prop) : W26 [.string (s), .int .u8 n] H Bd K = ((s.size ≤ 1048576 ∧ 0 ≤ n ∧ n < 256) ∧ K (lst (cutB s (UInt8.ofNat n.toNat))) H Bd) := by
  refine propext ⟨fun h => ?_, fun h => ⟨_, _, rfl, h⟩⟩
  obtain ⟨s', n', e, h⟩ := h
  skip
  simp only [List.cons.injEq, Value.agg.injEq, toArr_inj, Value.int.injEq, Value.bool.injEq, Value.string.injEq, Value.slice.injEq, Value.func.injEq, Value.pointer.injEq, Option.some.injEq, Addr.mk.injEq, lst_inj, true_and, and_true] at e
  obtain ⟨rfl, rfl⟩ := e
  exact h
set_option maxHeartbeats 2000000 in
theorem W26_ok : OK 26 W26 := by
  rintro args H Bd K ⟨s, n, rfl, hpre, hK⟩
  refine fn_pure pok (Env.base _) [(6, [], [], (.k 5 (.grp false 19 24 5 [20, 21, 22, 23, 24] 25 none (.k 5 .nil) .nil)))] _ hK Tryd.func26 rfl (rs := [.tmp 4]) rfl Tryd.ntmps26 (by simp) Tryd.call26 (by kernel_rfl) (fun ha hb => lst_nb _ _) (fun hb ha => ?_)
  obtain ⟨hsz, hn0, hn1⟩ := hpre
  obtain ⟨c, rfl, hc⟩ : ∃ c : UInt8, n = (c.toNat : Int) ∧ UInt8.ofNat n.toNat = c := ⟨UInt8.ofNat n.toNat, by simp; omega, rfl⟩
  rw [hc]
  simp (maxSteps := 2000000) (disch := first | assumption | (refine asm_intro ?_; assumption) | exact Nat.le_add_right _ _ | exact Nat.le_refl _ | omega | (simp (disch := first | exact Nat.le_add_right _ _ | omega) only [Le_upd hb, Le_app hb, Le_rfl, free_T hb, free_upd]; done) | fail) only [go_sem, push_cast, and_pos, Le_updF, Le_upd hb, free_T hb]
  refine tr_acc (α := ByteArray) (H0 := H) (B0 := Bd) (n0 := Bd) (s.size + 1) (fun i => (cutS s c i).1) (fun i out => [(0, .string s), (1, .int .u8 (c.toNat : Int)), (5, out), (6, .int .i64 ((cutS s c i).2 : Nat)), (7, .int .i64 i)]) (Nat.le_refl 1) ⟨by omega, by omega⟩ (by simp only [go_sem, push_cast, and_pos, Le_updF, cutS]) (by simp (disch := first | assumption | omega) only [go_sem, push_cast, and_pos, Le_updF, flat_nil, cutS]) ?_
  intro i ni ci Bi hii hci hni hmi hBi hbi
  refine vq_conv pok (E := (Env.base _)) (PL := [(6, [], [], (.k 5 (.grp false 19 24 5 [20, 21, 22, 23, 24] 25 none (.k 5 .nil) .nil)))]) (by kernel_rfl) ?_
  have hzi : (ci = 0) = False := eq_false (by omega)
  rcases Nat.lt_or_ge i (s.size + 1) with hlti | hgei
  · have hlen := cutS_len s c i
    have hle := cutS_le s c i
    by_cases he : i = s.size
    · have hst := cutS_hit (s := s) (c := c) (.inr he)
      simp (maxSteps := 2000000) (disch := first | assumption | (refine asm_intro ?_; assumption) | exact Nat.le_add_right _ _ | exact Nat.le_refl _ | omega | (simp (disch := first | exact Nat.le_add_right _ _ | omega) only [Le_upd hb, Le_app hb, Le_rfl, free_T hb, free_upd]; done) | fail) only [go_sem, push_cast, and_pos, Le_updF, Le_upd hb, free_T hb, hzi, hst, eq_true he, flat_append, flat_one]
      exact acc_end (by omega) (by omega) (by simp) rfl (by simp (disch := first | assumption | omega | (simp (disch := omega) only [free_upd, free_T hb]; done)) only [Le_upd2, Le_updF, Le_rfl, free_upd, free_T hb])
    · have hlt2 : i < s.data.toList.length := by rw [size_list]; omega
      have e1 : s.data.toList[i]? = some s.data.toList[i] := List.getElem?_eq_getElem hlt2
      have e2 : byteAt s i = (s.data.toList[i].toNat : Int) := by unfold byteAt; rw [List.getD_eq_getElem?_getD, e1]; rfl
      by_cases hx : s.data.toList[i] = c
      · have hst := cutS_hit (s := s) (c := c) (i := i) (.inl (by rw [e1, hx]))
        rw [hx] at e2
        simp (maxSteps := 2000000) (disch := first | assumption | (refine asm_intro ?_; assumption) | exact Nat.le_add_right _ _ | exact Nat.le_refl _ | omega | (simp (disch := first | exact Nat.le_add_right _ _ | omega) only [Le_upd hb, Le_app hb, Le_rfl, free_T hb, free_upd]; done) | fail) only [go_sem, push_cast, and_pos, Le_updF, Le_upd hb, free_T hb, hzi, he, e2, hst, flat_append, flat_one]
        exact acc_end (by omega) (by omega) (by simp) rfl (by simp (disch := first | assumption | omega | (simp (disch := omega) only [free_upd, free_T hb]; done)) only [Le_upd2, Le_updF, Le_rfl, free_upd, free_T hb])
      · have hst := cutS_miss (s := s) (c := c) (i := i) (by rintro (h | h) <;> first | exact he h | (rw [e1] at h; exact hx (Option.some.inj h)))
        have e3 : (byteAt s i = (c.toNat : Int)) = False := eq_false fun h => hx (UInt8.toNat_inj.1 (by rw [e2] at h; omega))
        simp (maxSteps := 2000000) (disch := first | assumption | (refine asm_intro ?_; assumption) | exact Nat.le_add_right _ _ | exact Nat.le_refl _ | omega | (simp (disch := first | exact Nat.le_add_right _ _ | omega) only [Le_upd hb, Le_app hb, Le_rfl, free_T hb, free_upd]; done) | fail) only [go_sem, push_cast, and_pos, Le_updF, Le_upd hb, free_T hb, hzi, he, e3, hst]
        exact ⟨ni, ci, by omega, by omega, by omega, Le.refl _, rfl⟩
  · simp (maxSteps := 2000000) (disch := first | assumption | (refine asm_intro ?_; assumption) | exact Nat.le_add_right _ _ | exact Nat.le_refl _ | omega | (simp (disch := first | exact Nat.le_add_right _ _ | omega) only [Le_upd hb, Le_app hb, Le_rfl, free_T hb, free_upd]; done) | fail) only [go_sem, push_cast, and_pos, Le_updF, Le_upd hb, free_T hb]
    refine Tr.fin2 5 (by simp (disch := first | assumption | omega) only [free_upd, free_T hb]) (by simp only [go_sem, push_cast, and_pos, Le_updF]; rfl) rfl ?_
    refine vq_conv pok (E := (Env.base _)) (PL := [(6, [], [], (.k 5 (.grp false 19 24 5 [20, 21, 22, 23, 24] 25 none (.k 5 .nil) .nil)))]) (by kernel_rfl) ?_
    obtain rfl : i = s.size + 1 := by omega
    simp (maxSteps := 2000000) (disch := first | assumption | (refine asm_intro ?_; assumption) | exact Nat.le_add_right _ _ | exact Nat.le_refl _ | omega | (simp (disch := first | exact Nat.le_add_right _ _ | omega) only [Le_upd hb, Le_app hb, Le_rfl, free_T hb, free_upd]; done) | fail) only [go_sem, push_cast, and_pos, Le_updF, Le_upd hb, free_T hb]
    exact .same _
def V27 : Trans := fun args H Bd K => ∃ (s : GSignature) (name : ByteArray), args = [.agg (enc (s)).toArray, .string (name)] ∧ ((sm s) ∧ K (.int .i64 (symIdx s name)) H Bd)
@[go_sem ↓] theorem V27_eq (s_symbols : List GSymbol) (name : ByteArray) (H : AH) (Bd : Nat) (K : Value → AH → Nat → Prop) : V27 [.agg #[lst (s_symbols)], .string (name)] H Bd K = ((sm (GSignature.mk s_symbols)) ∧ K (.int .i64 (symIdx (GSignature.mk s_symbols) name)) H Bd) := by
  refine propext ⟨fun h => ?_, fun h => ⟨_, _, rfl, h⟩⟩
  obtain ⟨s', name', e, h⟩ := h
  obtain ⟨ssymbols'⟩ := s'
  skip
  simp only [enc_GSignature, enc_int, enc_str, enc_list, enc_bool, enc_byte, List.cons.injEq, Value.agg.injEq, toArr_inj, Value.int.injEq, Value.bool.injEq, Value.string.injEq, Value.slice.injEq, Value.func.injEq, Value.pointer.injEq, Option.some.injEq, Addr.mk.injEq, lst_inj, true_and, and_true] at e
  obtain ⟨rfl, rfl⟩ := e
  exact h
def W27 : Trans := fun args H Bd K => ∃ (ps vname : Value), args = [ps, vname] ∧ Yld (cellsAt H 1 ps) fun cs => callW V27 [.agg cs.toArray, vname] H Bd K
@[go_sem ↓] theorem W27_eq (ps vname : Value) (H : AH) (Bd : Nat) (K : Value → AH → Nat → Prop) : W27 [ps, vname] H Bd K = (Yld (cellsAt H 1 ps) fun cs => callW V27 (idS [.agg cs.toArray, vname]) H Bd K) := by
  refine propext ⟨fun h => ?_, fun h => ⟨_, _, rfl, h⟩⟩
  obtain ⟨ps', vname', e, h⟩ := h
  simp only [List.cons.injEq, and_true] at e
  obtain ⟨rfl, rfl⟩ := e
  exact h
theorem W27_ok : OK 27 W27 := by
  rintro args H Bd K ⟨ps, vname, rfl, cs, es, h⟩
  obtain ⟨s, name, e, hpre, hK⟩ := h
  simp only [List.cons.injEq, and_true] at e
  obtain ⟨Es, rfl⟩ := e
  obtain rfl := agg_inj Es
  refine fn_pure pok (Env.base _) [] _ hK Tryd.func27 rfl (rs := [.tmp 4]) rfl Tryd.ntmps27 (by simp) Tryd.call27 (by kernel_rfl) (fun ha hb => .int _ _) (fun hb ha => ?_)
  have Ps := cellsAt_out es (NB.vpok (ha ps (by simp)))
  simp only [enc_GSignature] at Ps
  simp only [sm_GSignature] at hpre
  have hlen := sm_len hpre
  simp (maxSteps := 2000000) (disch := first | assumption | (refine asm_intro ?_; assumption) | exact Nat.le_add_right _ _ | exact Nat.le_refl _ | omega | (simp (disch := first | exact Nat.le_add_right _ _ | omega) only [Le_upd hb, Le_app hb, Le_rfl, free_T hb, free_upd]; done) | fail) only [go_sem, push_cast, and_pos, Le_updF, Le_upd hb, free_T hb, Ps.nil, Ps.fldL (m := 1) rfl, Ps.ldL (m := 1) rfl, Ps.ld0L (m := 1) rfl, Ps.cellsL (m := 1) rfl, Ps.cellsOL (m := 1) rfl]
  refine tr_for (fun i => ∀ j, j < i → ∀ x, s.symbols[j]? = some x → decide (x.name = name) = false) (s.symbols.length) (fun i => [(0, ps), (1, .string name), (5, .int .i64 i)]) (by simp) (by simp only [go_sem, push_cast, and_pos, Le_updF]) ?_
  intro i Bi hIi hii hBi
  refine vq_conv pok (E := (Env.base _)) (PL := []) (by kernel_rfl) ?_
  rcases Nat.lt_or_ge i (s.symbols.length) with hlti | hgei
  · have e1 : s.symbols[i]? = some s.symbols[i] := List.getElem?_eq_getElem hlti
    simp (maxSteps := 2000000) (disch := first | assumption | (refine asm_intro ?_; assumption) | exact Nat.le_add_right _ _ | exact Nat.le_refl _ | omega | (simp (disch := first | exact Nat.le_add_right _ _ | omega) only [Le_upd hb, Le_app hb, Le_rfl, free_T hb, free_upd]; done) | fail) only [go_sem, push_cast, and_pos, Le_updF, Le_upd hb, free_T hb, Ps.nil, Ps.fldL (m := 1) rfl, Ps.ldL (m := 1) rfl, Ps.ld0L (m := 1) rfl, Ps.cellsL (m := 1) rfl, Ps.cellsOL (m := 1) rfl, e1]
    unfold symIdx
    exact ⟨fun h => by rw [fidx_hit hlti hIi (by simpa using h)], fun h => fun j hj x hx => by
      by_cases e : j = i
      · subst e; rw [e1] at hx; cases hx; simpa using h
      · simpa using hIi j (by omega) x hx⟩
  · simp (maxSteps := 2000000) (disch := first | assumption | (refine asm_intro ?_; assumption) | exact Nat.le_add_right _ _ | exact Nat.le_refl _ | omega | (simp (disch := first | exact Nat.le_add_right _ _ | omega) only [Le_upd hb, Le_app hb, Le_rfl, free_T hb, free_upd]; done) | fail) only [go_sem, push_cast, and_pos, Le_updF, Le_upd hb, free_T hb, Ps.nil, Ps.fldL (m := 1) rfl, Ps.ldL (m := 1) rfl, Ps.ld0L (m := 1) rfl, Ps.cellsL (m := 1) rfl, Ps.cellsOL (m := 1) rfl]
    refine vq_conv pok (E := (Env.base _)) (PL := []) (by kernel_rfl) ?_
    simp (maxSteps := 2000000) (disch := first | assumption | (refine asm_intro ?_; assumption) | exact Nat.le_add_right _ _ | exact Nat.le_refl _ | omega | (simp (disch := first | exact Nat.le_add_right _ _ | omega) only [Le_upd hb, Le_app hb, Le_rfl, free_T hb, free_upd]; done) | fail) only [go_sem, push_cast, and_pos, Le_updF, Le_upd hb, free_T hb, Ps.nil, Ps.fldL (m := 1) rfl, Ps.ldL (m := 1) rfl, Ps.ld0L (m := 1) rfl, Ps.cellsL (m := 1) rfl, Ps.cellsOL (m := 1) rfl]
    unfold symIdx
    rw [fidx_none fun j hj x hx => hIi j (by omega) x hx]
def V45 : Trans := fun args H Bd K => ∃ (s : GSignature) (n : Int), args = [.agg (enc (s)).toArray, .int .i64 (n)] ∧ ((sm s ∧ R64 n) ∧ K (.bool (isSym s n)) H Bd)
@[go_sem ↓] theorem V45_eq (s_symbols : List GSymbol) (n : Int) (H : AH) (Bd : Nat) (K : Value → AH → Nat → Prop) : V45 [.agg #[lst (s_symbols)], .int .i64 (n)] H Bd K = ((sm (GSignature.mk s_symbols) ∧ R64 n) ∧ K (.bool (isSym (GSignature.mk s_symbols) n)) H Bd) := by
  refine propext ⟨fun h => ?_, fun h => ⟨_, _, rfl, h⟩⟩
  obtain ⟨s', n', e, h⟩ := h
  obtain ⟨ssymbols'⟩ := s'
  skip
  simp only [enc_GSignature, enc_int, enc_str, enc_list, enc_bool, enc_byte, List.cons.injEq, Value.agg.injEq, toArr_inj, Value.int.injEq, Value.bool.injEq, Value.string.injEq, Value.slice.injEq, Value.func.injEq, Value.pointer.injEq, Option.some.injEq, Addr.mk.injEq, lst_inj, true_and, and_true] at e
  obtain ⟨rfl, rfl⟩ := e
  exact h
def W45 : Trans := fun args H Bd K => ∃ (ps vn : Value), args = [ps, vn] ∧ Yld (cellsAt H 1 ps) fun cs => callW V45 [.agg cs.toArray, vn] H Bd K
@[go_sem ↓] theorem W45_eq (ps vn : Value) (H : AH) (Bd : Nat) (K : Value → AH → Nat → Prop) : W45 [ps, vn] H Bd K = (Yld (cellsAt H 1 ps) fun cs => callW V45 (idS [.agg cs.toArray, vn]) H Bd K) := by
  refine propext ⟨fun h => ?_, fun h => ⟨_, _, rfl, h⟩⟩
  obtain ⟨ps', vn', e, h⟩ := h
  simp only [List.cons.injEq, and_true] at e
  obtain ⟨rfl, rfl⟩ := e
  exact h
theorem W45_ok : OK 45 W45 := by
  rintro args H Bd K ⟨ps, vn, rfl, cs, es, h⟩
  obtain ⟨s, n, e, hpre, hK⟩ := h
  simp only [List.cons.injEq, and_true] at e
  obtain ⟨Es, rfl⟩ := e
  obtain rfl := agg_inj Es
  refine fn_pure pok ((Env.base _).add 44 _ W44_ok) [] _ hK Tryd.func45 rfl (rs := [.tmp 4]) rfl Tryd.ntmps45 (by simp) Tryd.call45 (by kernel_rfl) (fun ha hb => .bool _) (fun hb ha => ?_)
  have Ps := cellsAt_out es (NB.vpok (ha ps (by simp)))
  simp only [enc_GSignature] at Ps
  obtain ⟨h1, h2⟩ := hpre
  simp only [sm_GSignature] at h1
  have hlen := sm_len h1
  simp (maxSteps := 2000000) (disch := first | assumption | (refine asm_intro ?_; assumption) | exact Nat.le_add_right _ _ | exact Nat.le_refl _ | omega | (simp (disch := first | exact Nat.le_add_right _ _ | omega) only [Le_upd hb, Le_app hb, Le_rfl, free_T hb, free_upd]; done) | fail) only [go_sem, push_cast, and_pos, Le_updF, Le_upd hb, free_T hb, Ps.nil, Ps.fldL (m := 1) rfl, Ps.ldL (m := 1) rfl, Ps.ld0L (m := 1) rfl, Ps.cellsL (m := 1) rfl, Ps.cellsOL (m := 1) rfl]
  unfold isSym
  all_goals first | done | trivial | ((try simp only [Cnp, Imp]); grind)
def V28 : Trans := fun args H Bd K => ∃ (s : GSignature) (order : List Int), args = [.agg (enc (s)).toArray, lst (order)] ∧ ((sm s ∧ sm order ∧ rg order) ∧ K (.int .i64 (ordG s order)) H Bd)
@[go_sem ↓] theorem V28_eq (s_symbols : List GSymbol) (order : List Int) (H : AH) (Bd : Nat) (K : Value → AH → Nat → Prop) : V28 [.agg #[lst (s_symbols)], lst (order)] H Bd K = ((sm (GSignature.mk s_symbols) ∧ sm order ∧ rg order) ∧ K (.int .i64 (ordG (GSignature.mk s_symbols) order)) H Bd) := by
  refine propext ⟨fun h => ?_, fun h => ⟨_, _, rfl, h⟩⟩
  obtain ⟨s', order', e, h⟩ := h
  obtain ⟨ssymbols'⟩ := s'
  skip
  simp only [enc_GSignature, enc_int, enc_str, enc_list, enc_bool, enc_byte, List.cons.injEq, Value.agg.injEq, toArr_inj, Value.int.injEq, Value.bool.injEq, Value.string.injEq, Value.slice.injEq, Value.func.injEq, Value.pointer.injEq, Option.some.injEq, Addr.mk.injEq, lst_inj, true_and, and_true] at e
  obtain ⟨rfl, rfl⟩ := e
  exact h
def W28 : Trans := fun args H Bd K => ∃ (ps vorder : Value), args = [ps, vorder] ∧ Yld (cellsAt H 1 ps) fun cs => callW V28 [.agg cs.toArray, vorder] H Bd K
@[go_sem ↓] theorem W28_eq (ps vorder : Value) (H : AH) (Bd : Nat) (K : Value → AH → Nat → Prop) : W28 [ps, vorder] H Bd K = (Yld (cellsAt H 1 ps) fun cs => callW V28 (idS [.agg cs.toArray, vorder]) H Bd K) := by
  refine propext ⟨fun h => ?_, fun h => ⟨_, _, rfl, h⟩⟩
  obtain ⟨ps', vorder', e, h⟩ := h
  simp only [List.cons.injEq, and_true] at e
  obtain ⟨rfl, rfl⟩ := e
  exact h
set_option maxHeartbeats 2000000 in
theorem W28_ok : OK 28 W28 := by
  rintro args H Bd K ⟨ps, vorder, rfl, cs, es, h⟩
  obtain ⟨s, order, e, hpre, hK⟩ := h
  simp only [List.cons.injEq, and_true] at e
  obtain ⟨Es, rfl⟩ := e
  obtain rfl := agg_inj Es
  refine fn_pure pok ((Env.base _).add 45 _ W45_ok) [(14, [0,1,2,3,4,5,6,7,8], [⟨0, [], []⟩, ⟨1, [], []⟩, ⟨2, [], []⟩, ⟨3, [], []⟩, ⟨4, [], []⟩, ⟨5, [], []⟩, ⟨6, [], []⟩, ⟨7, [], []⟩, ⟨8, [], []⟩], .nil)] _ hK Tryd.func28 rfl (rs := [.tmp 4]) rfl Tryd.ntmps28 (by simp) Tryd.call28 (by kernel_rfl) (fun ha hb => .int _ _) (fun hb ha => ?_)
  have Ps := cellsAt_out es (NB.vpok (ha ps (by simp)))
  simp only [enc_GSignature] at Ps
  obtain ⟨h1, h2, h3⟩ := hpre
  have hss : sm s := h1
  simp only [sm_GSignature] at h1
  have hlen := sm_len h1
  have hlen2 := sm_len h2
  simp (maxSteps := 2000000) (disch := first | assumption | (refine asm_intro ?_; assumption) | exact Nat.le_add_right _ _ | exact Nat.le_refl _ | omega | (simp (disch := first | exact Nat.le_add_right _ _ | omega) only [Le_upd hb, Le_app hb, Le_rfl, free_T hb, free_upd]; done) | fail) only [go_sem, push_cast, and_pos, Le_updF, Le_upd hb, free_T hb, Ps.nil, Ps.fldL (m := 1) rfl, Ps.ldL (m := 1) rfl, Ps.ld0L (m := 1) rfl, Ps.cellsL (m := 1) rfl, Ps.cellsOL (m := 1) rfl]
  refine ⟨fun hq => ?_, fun hq => by unfold ordG; rw [if_pos (by omega)]⟩
  have hs : ordG s order = if order.any (fun n => !isSym s n) = true then 3 else if order.Nodup then 0 else 6 := by unfold ordG; rw [if_neg (by omega)]
  rw [hs]
  refine tr_for (fun i => ∀ b, b < i → ∀ y, order[b]? = some y → (!isSym s y) = false) (order.length) (fun i => [(0, ps), (1, lst order), (5, .int .i64 i)]) (by simp) (by simp only [go_sem, push_cast, and_pos, Le_updF]) ?_
  intro i Bi hIi hii hBi
  refine vq_conv pok (E := ((Env.base _).add 45 _ W45_ok)) (PL := [(14, [0,1,2,3,4,5,6,7,8], [⟨0, [], []⟩, ⟨1, [], []⟩, ⟨2, [], []⟩, ⟨3, [], []⟩, ⟨4, [], []⟩, ⟨5, [], []⟩, ⟨6, [], []⟩, ⟨7, [], []⟩, ⟨8, [], []⟩], .nil)]) (by kernel_rfl) ?_
  rcases Nat.lt_or_ge i (order.length) with hlti | hgei
  · have e1 : order[i]? = some order[i] := List.getElem?_eq_getElem hlti
    have hr : R64 order[i] := h3 _ (List.getElem_mem hlti)
    simp (maxSteps := 2000000) (disch := first | assumption | (refine asm_intro ?_; assumption) | exact Nat.le_add_right _ _ | exact Nat.le_refl _ | omega | (simp (disch := first | exact Nat.le_add_right _ _ | omega) only [Le_upd hb, Le_app hb, Le_rfl, free_T hb, free_upd]; done) | fail) only [go_sem, push_cast, and_pos, Le_updF, Le_upd hb, free_T hb, Ps.nil, Ps.fldL (m := 1) rfl, Ps.ldL (m := 1) rfl, Ps.ld0L (m := 1) rfl, Ps.cellsL (m := 1) rfl, Ps.cellsOL (m := 1) rfl, e1, hss, hr]
    refine ⟨fun h => fun b hb1 y hb2 => ?_, fun h => ?_⟩
    · by_cases e : b = i
      · subst e; rw [e1] at hb2; cases hb2; simpa using h
      · exact hIi b (by omega) y hb2
    · rw [if_pos (any_hit hlti (by simpa using h))]
  · simp (maxSteps := 2000000) (disch := first | assumption | (refine asm_intro ?_; assumption) | exact Nat.le_add_right _ _ | exact Nat.le_refl _ | omega | (simp (disch := first | exact Nat.le_add_right _ _ | omega) only [Le_upd hb, Le_app hb, Le_rfl, free_T hb, free_upd]; done) | fail) only [go_sem, push_cast, and_pos, Le_updF, Le_upd hb, free_T hb, Ps.nil, Ps.fldL (m := 1) rfl, Ps.ldL (m := 1) rfl, Ps.ld0L (m := 1) rfl, Ps.cellsL (m := 1) rfl, Ps.cellsOL (m := 1) rfl]
    refine vq_conv pok (E := ((Env.base _).add 45 _ W45_ok)) (PL := [(14, [0,1,2,3,4,5,6,7,8], [⟨0, [], []⟩, ⟨1, [], []⟩, ⟨2, [], []⟩, ⟨3, [], []⟩, ⟨4, [], []⟩, ⟨5, [], []⟩, ⟨6, [], []⟩, ⟨7, [], []⟩, ⟨8, [], []⟩], .nil)]) (by kernel_rfl) ?_
    simp (maxSteps := 2000000) (disch := first | assumption | (refine asm_intro ?_; assumption) | exact Nat.le_add_right _ _ | exact Nat.le_refl _ | omega | (simp (disch := first | exact Nat.le_add_right _ _ | omega) only [Le_upd hb, Le_app hb, Le_rfl, free_T hb, free_upd]; done) | fail) only [go_sem, push_cast, and_pos, Le_updF, Le_upd hb, free_T hb, Ps.nil, Ps.fldL (m := 1) rfl, Ps.ldL (m := 1) rfl, Ps.ld0L (m := 1) rfl, Ps.cellsL (m := 1) rfl, Ps.cellsOL (m := 1) rfl]
    rw [if_neg (by rw [any_false fun j hj x hx => hIi j (by omega) x hx]; simp)]
    refine tr_for (fun j => ∀ a b x y, b < a → a < j → order[a]? = some x → order[b]? = some y → x ≠ y) (order.length) (fun j => [(0, ps), (1, lst order), (6, .int .i64 j)]) (by simp) (by simp only [go_sem, push_cast, and_pos, Le_updF]) ?_
    intro j Bj hIj hij hBj
    refine vq_conv pok (E := ((Env.base _).add 45 _ W45_ok)) (PL := [(14, [0,1,2,3,4,5,6,7,8], [⟨0, [], []⟩, ⟨1, [], []⟩, ⟨2, [], []⟩, ⟨3, [], []⟩, ⟨4, [], []⟩, ⟨5, [], []⟩, ⟨6, [], []⟩, ⟨7, [], []⟩, ⟨8, [], []⟩], .nil)]) (by kernel_rfl) ?_
    rcases Nat.lt_or_ge j (order.length) with hltj | hgej
    · have e1 : order[j]? = some order[j] := List.getElem?_eq_getElem hltj
      simp (maxSteps := 2000000) (disch := first | assumption | (refine asm_intro ?_; assumption) | exact Nat.le_add_right _ _ | exact Nat.le_refl _ | omega | (simp (disch := first | exact Nat.le_add_right _ _ | omega) only [Le_upd hb, Le_app hb, Le_rfl, free_T hb, free_upd]; done) | fail) only [go_sem, push_cast, and_pos, Le_updF, Le_upd hb, free_T hb, Ps.nil, Ps.fldL (m := 1) rfl, Ps.ldL (m := 1) rfl, Ps.ld0L (m := 1) rfl, Ps.cellsL (m := 1) rfl, Ps.cellsOL (m := 1) rfl, e1]
      refine tr_for (fun k => ∀ b y, b < k → order[b]? = some y → order[j] ≠ y) (j) (fun k => [(0, ps), (1, lst order), (6, .int .i64 j), (7, .int .i64 k)]) (by simp) (by simp only [go_sem, push_cast, and_pos, Le_updF]) ?_
      intro k Bk hIk hik hBk
      refine vq_conv pok (E := ((Env.base _).add 45 _ W45_ok)) (PL := [(14, [0,1,2,3,4,5,6,7,8], [⟨0, [], []⟩, ⟨1, [], []⟩, ⟨2, [], []⟩, ⟨3, [], []⟩, ⟨4, [], []⟩, ⟨5, [], []⟩, ⟨6, [], []⟩, ⟨7, [], []⟩, ⟨8, [], []⟩], .nil)]) (by kernel_rfl) ?_
      rcases Nat.lt_or_ge k (j) with hltk | hgek
      · have e2 : order[k]? = some (order[k]'(by omega)) := List.getElem?_eq_getElem _
        simp (maxSteps := 2000000) (disch := first | assumption | (refine asm_intro ?_; assumption) | exact Nat.le_add_right _ _ | exact Nat.le_refl _ | omega | (simp (disch := first | exact Nat.le_add_right _ _ | omega) only [Le_upd hb, Le_app hb, Le_rfl, free_T hb, free_upd]; done) | fail) only [go_sem, push_cast, and_pos, Le_updF, Le_upd hb, free_T hb, Ps.nil, Ps.fldL (m := 1) rfl, Ps.ldL (m := 1) rfl, Ps.ld0L (m := 1) rfl, Ps.cellsL (m := 1) rfl, Ps.cellsOL (m := 1) rfl, e1, e2]
        refine ⟨fun h => ?_, fun h => fun b y hb1 hb2 => ?_⟩
        · rw [if_neg (nodup_not hltk hltj h)]
        · by_cases e : b = k
          · subst e; rw [e2] at hb2; cases hb2; exact h
          · exact hIk b y (by omega) hb2
      · simp (maxSteps := 2000000) (disch := first | assumption | (refine asm_intro ?_; assumption) | exact Nat.le_add_right _ _ | exact Nat.le_refl _ | omega | (simp (disch := first | exact Nat.le_add_right _ _ | omega) only [Le_upd hb, Le_app hb, Le_rfl, free_T hb, free_upd]; done) | fail) only [go_sem, push_cast, and_pos, Le_updF, Le_upd hb, free_T hb, Ps.nil, Ps.fldL (m := 1) rfl, Ps.ldL (m := 1) rfl, Ps.ld0L (m := 1) rfl, Ps.cellsL (m := 1) rfl, Ps.cellsOL (m := 1) rfl]
        intro a b x y h1 h2 h3 h4
        by_cases e : a = j
        · subst e; rw [e1] at h3; cases h3; exact hIk b y (by omega) h4
        · exact hIj a b x y h1 (by omega) h3 h4
    · simp (maxSteps := 2000000) (disch := first | assumption | (refine asm_intro ?_; assumption) | exact Nat.le_add_right _ _ | exact Nat.le_refl _ | omega | (simp (disch := first | exact Nat.le_add_right _ _ | omega) only [Le_upd hb, Le_app hb, Le_rfl, free_T hb, free_upd]; done) | fail) only [go_sem, push_cast, and_pos, Le_updF, Le_upd hb, free_T hb, Ps.nil, Ps.fldL (m := 1) rfl, Ps.ldL (m := 1) rfl, Ps.ld0L (m := 1) rfl, Ps.cellsL (m := 1) rfl, Ps.cellsOL (m := 1) rfl]
      refine vq_conv pok (E := ((Env.base _).add 45 _ W45_ok)) (PL := [(14, [0,1,2,3,4,5,6,7,8], [⟨0, [], []⟩, ⟨1, [], []⟩, ⟨2, [], []⟩, ⟨3, [], []⟩, ⟨4, [], []⟩, ⟨5, [], []⟩, ⟨6, [], []⟩, ⟨7, [], []⟩, ⟨8, [], []⟩], .nil)]) (by kernel_rfl) ?_
      simp (maxSteps := 2000000) (disch := first | assumption | (refine asm_intro ?_; assumption) | exact Nat.le_add_right _ _ | exact Nat.le_refl _ | omega | (simp (disch := first | exact Nat.le_add_right _ _ | omega) only [Le_upd hb, Le_app hb, Le_rfl, free_T hb, free_upd]; done) | fail) only [go_sem, push_cast, and_pos, Le_updF, Le_upd hb, free_T hb, Ps.nil, Ps.fldL (m := 1) rfl, Ps.ldL (m := 1) rfl, Ps.ld0L (m := 1) rfl, Ps.cellsL (m := 1) rfl, Ps.cellsOL (m := 1) rfl]
      rw [if_pos (nodup_of fun i j x y h1 h2 h3 => hIj i j x y h1 (by have := (List.getElem?_eq_some_iff.1 h2).1; omega) h2 h3)]
def W11 : Trans := fun args H Bd K => ∃ (s : GSignature) (t : ByteArray), args = [.agg (enc (s)).toArray, .string (t)] ∧ ((sm s ∧ t.size ≤ 1048576) ∧ K (.agg (enc (readOrd s t)).toArray) H Bd)
@[go_sem ↓] theorem W11_eq (s_symbols : List GSymbol) (t : ByteArray) (H : AH) (Bd : Nat) (K : Value → AH → Nat → Prop) : W11 [.agg #[lst (s_symbols)], .string (t)] H Bd K = ((sm (GSignature.mk s_symbols) ∧ t.size ≤ 1048576) ∧ K (.agg (enc (readOrd (GSignature.mk s_symbols) t)).toArray) H Bd) := by
  refine propext ⟨fun h => ?_, fun h => ⟨_, _, rfl, h⟩⟩
  obtain ⟨s', t', e, h⟩ := h
  obtain ⟨ssymbols'⟩ := s'
  skip
  simp only [enc_GSignature, List.cons.injEq, Value.agg.injEq, toArr_inj, Value.int.injEq, Value.bool.injEq, Value.string.injEq, Value.slice.injEq, Value.func.injEq, Value.pointer.injEq, Option.some.injEq, Addr.mk.injEq, lst_inj, true_and, and_true] at e
  obtain ⟨rfl, rfl⟩ := e
  exact h
set_option maxHeartbeats 2000000 in
theorem W11_ok : OK 11 W11 := by
  rintro args H Bd K ⟨s, t, rfl, hpre, hK⟩
  refine fn_pure pok (((((Env.base _).add 25 _ W25_ok).add 26 _ W26_ok).add 27 _ W27_ok).add 28 _ W28_ok) [] _ hK Tryd.func11 rfl (rs := [.cell 4 35]) rfl Tryd.ntmps11 (by simp) Tryd.call11 (by kernel_rfl) (fun ha hb => agg_nb _ _) (fun hb ha => ?_)
  obtain ⟨h1, h2⟩ := hpre
  have hss := h1
  have hc : UInt8.ofNat 44 = 44 := rfl
  by_cases hs : sigF s = 0
  · by_cases ht : t.size > 24
    · have e : readOrd s t = ⟨5, []⟩ := by unfold readOrd; rw [if_neg (by simp [hs]), if_pos (readL_big hs ht)]
      simp (maxSteps := 2000000) (disch := first | assumption | (refine asm_intro ?_; assumption) | exact Nat.le_add_right _ _ | exact Nat.le_refl _ | omega | (simp (disch := first | exact Nat.le_add_right _ _ | omega) only [Le_upd hb, Le_app hb, Le_rfl, free_T hb, free_upd]; done) | fail) only [go_sem, push_cast, and_pos, Le_updF, Le_upd hb, free_T hb, h1, hs, ht, e]
    · have hl := cutB_len_le t 44
      have hl2 := readL_len s t
      have hrg := readL_rg hs t
      simp (maxSteps := 2000000) (disch := first | assumption | (refine asm_intro ?_; assumption) | exact Nat.le_add_right _ _ | exact Nat.le_refl _ | omega | (simp (disch := first | exact Nat.le_add_right _ _ | omega) only [Le_upd hb, Le_app hb, Le_rfl, free_T hb, free_upd]; done) | fail) only [go_sem, push_cast, and_pos, Le_updF, Le_upd hb, free_T hb, h1, hs, ht, hc, h2]
      refine tr_acc (α := Int) (H0 := upd (upd (upd H Bd (some ⟨[lst s.symbols], true⟩)) (Bd + 1) (some ⟨[.int .i64 0, .slice none 0 0], true⟩)) (Bd + 2) (some ⟨[.int .i64 5, .slice none 0 0], true⟩)) (B0 := Bd + 3) (n0 := Bd + 3) ((cutB t 44).length) (fun i => (readL s t).take i) (fun i out => [(2, .pointer (some ⟨Bd, 0, none⟩)), (4, .pointer (some ⟨Bd + 1, 0, none⟩)), (6, .pointer (some ⟨Bd + 2, 0, none⟩)), (7, lst (cutB t 44)), (8, out), (9, .int .i64 i)]) (Nat.le_refl 1) ⟨by omega, by omega⟩ (by simp only [go_sem, push_cast, and_pos, Le_updF, List.take_zero]) (by simp (disch := first | assumption | omega) only [go_sem, push_cast, and_pos, Le_updF, flat_nil, List.take_zero]) ?_
      intro i ni ci Bi hii hci hni hmi hBi hbi
      refine vq_conv pok (E := (((((Env.base _).add 25 _ W25_ok).add 26 _ W26_ok).add 27 _ W27_ok).add 28 _ W28_ok)) (PL := []) (by kernel_rfl) ?_
      have hzi : (ci = 0) = False := eq_false (by omega)
      rcases Nat.lt_or_ge i ((cutB t 44).length) with hlti | hgei
      · have e1 : (cutB t 44)[i]? = some (cutB t 44)[i] := List.getElem?_eq_getElem hlti
        have hst := readL_take (s := s) hlti
        have hl3 : ((readL s t).take i).length = i := by simp; omega
        by_cases hn : symIdx s (cutB t 44)[i] < 0
        · have e : readOrd s t = ⟨5, []⟩ := by unfold readOrd; rw [if_neg (by simp [hs]), if_pos (readL_neg hlti hn)]
          simp (maxSteps := 2000000) (disch := first | assumption | (refine asm_intro ?_; assumption) | exact Nat.le_add_right _ _ | exact Nat.le_refl _ | omega | (simp (disch := first | exact Nat.le_add_right _ _ | omega) only [Le_upd hb, Le_app hb, Le_rfl, free_T hb, free_upd]; done) | fail) only [go_sem, push_cast, and_pos, Le_updF, Le_upd hb, free_T hb, e1, hss, hn, e]
        · simp (maxSteps := 2000000) (disch := first | assumption | (refine asm_intro ?_; assumption) | exact Nat.le_add_right _ _ | exact Nat.le_refl _ | omega | (simp (disch := first | exact Nat.le_add_right _ _ | omega) only [Le_upd hb, Le_app hb, Le_rfl, free_T hb, free_upd]; done) | fail) only [go_sem, push_cast, and_pos, Le_updF, Le_upd hb, free_T hb, e1, hss, hn, hzi, hst, flat_append, flat_one]
          exact acc_end (by omega) (by omega) (by simp) rfl (by simp (disch := first | assumption | omega | (simp (disch := omega) only [free_upd, free_T hb]; done)) only [Le_upd2, Le_updF, Le_rfl, free_upd, free_T hb])
      · simp (maxSteps := 2000000) (disch := first | assumption | (refine asm_intro ?_; assumption) | exact Nat.le_add_right _ _ | exact Nat.le_refl _ | omega | (simp (disch := first | exact Nat.le_add_right _ _ | omega) only [Le_upd hb, Le_app hb, Le_rfl, free_T hb, free_upd]; done) | fail) only [go_sem, push_cast, and_pos, Le_updF, Le_upd hb, free_T hb]
        refine Tr.fin2 8 (by simp (disch := first | assumption | omega) only [free_upd, free_T hb]) (by simp only [go_sem, push_cast, and_pos, Le_updF]; rfl) rfl ?_
        refine vq_conv pok (E := (((((Env.base _).add 25 _ W25_ok).add 26 _ W26_ok).add 27 _ W27_ok).add 28 _ W28_ok)) (PL := []) (by kernel_rfl) ?_
        rw [List.take_of_length_le (by omega)]
        have hsm : sm (readL s t) := (sm_ints _).2 (by omega)
        by_cases ho : ordG s (readL s t) = 0
        · have e : readOrd s t = ⟨0, readL s t⟩ := by unfold readOrd; rw [if_neg (by simp [hs]), if_neg (by simp [ho])]
          simp (maxSteps := 2000000) (disch := first | assumption | (refine asm_intro ?_; assumption) | exact Nat.le_add_right _ _ | exact Nat.le_refl _ | omega | (simp (disch := first | exact Nat.le_add_right _ _ | omega) only [Le_upd hb, Le_app hb, Le_rfl, free_T hb, free_upd]; done) | fail) only [go_sem, push_cast, and_pos, Le_updF, Le_upd hb, free_T hb, hss, hsm, hrg, ho, e]
        · have e : readOrd s t = ⟨5, []⟩ := by unfold readOrd; rw [if_neg (by simp [hs]), if_pos ho]
          simp (maxSteps := 2000000) (disch := first | assumption | (refine asm_intro ?_; assumption) | exact Nat.le_add_right _ _ | exact Nat.le_refl _ | omega | (simp (disch := first | exact Nat.le_add_right _ _ | omega) only [Le_upd hb, Le_app hb, Le_rfl, free_T hb, free_upd]; done) | fail) only [go_sem, push_cast, and_pos, Le_updF, Le_upd hb, free_T hb, hss, hsm, hrg, ho, e]
  · have e : readOrd s t = ⟨sigF s, []⟩ := by unfold readOrd; rw [if_pos hs]
    simp (maxSteps := 2000000) (disch := first | assumption | (refine asm_intro ?_; assumption) | exact Nat.le_add_right _ _ | exact Nat.le_refl _ | omega | (simp (disch := first | exact Nat.le_add_right _ _ | omega) only [Le_upd hb, Le_app hb, Le_rfl, free_T hb, free_upd]; done) | fail) only [go_sem, push_cast, and_pos, Le_updF, Le_upd hb, free_T hb, h1, hs, e]
def J11 : Trans := GiveA W11
@[go_sem ↓] theorem J11_eq (v0 v1 : Value) (H : AH) (Bd : Nat) (K : Value → AH → Nat → Prop) : J11 [v0, v1] H Bd K = callW W11 (idS [giveA H v0, giveA H v1]) (killAll H [v0, v1]) Bd K := (rfl)
theorem J11_ok : OK 11 J11 := GiveA_ok W11_ok
def W47 : Trans := fun args H Bd K => ∃ (s : ByteArray), args = [.string (s)] ∧ ((s.size ≤ 281474976710656) ∧ K (.bool (isNm s)) H Bd)
@[go_sem ↓] theorem W47_eq (s : ByteArray) (H : AH) (Bd : Nat) (K : Value → AH → Nat → Prop) : W47 [.string (s)] H Bd K = ((s.size ≤ 281474976710656) ∧ K (.bool (isNm s)) H Bd) := by
  refine propext ⟨fun h => ?_, fun h => ⟨_, rfl, h⟩⟩
  obtain ⟨s', e, h⟩ := h
  skip
  simp only [List.cons.injEq, Value.agg.injEq, toArr_inj, Value.int.injEq, Value.bool.injEq, Value.string.injEq, Value.slice.injEq, Value.func.injEq, Value.pointer.injEq, Option.some.injEq, Addr.mk.injEq, lst_inj, true_and, and_true] at e
  obtain rfl := e
  exact h
theorem W47_ok : OK 47 W47 := by
  rintro args H Bd K ⟨s, rfl, hpre, hK⟩
  refine fn_pure pok ((Env.base _).add 60 _ W60_ok) [(1, [], [], (.k 4 (.grp true 6 9 3 [7, 8, 9] 10 none (.k 3 .nil) (.k 1 (.grp true 11 14 3 [12, 13, 14] 15 none (.k 3 .nil) (.k 1 .nil))))))] _ hK Tryd.func47 rfl (rs := [.tmp 2]) rfl Tryd.ntmps47 (by simp) Tryd.call47 (by kernel_rfl) (fun ha hb => .bool _) (fun hb ha => ?_)
  simp (maxSteps := 2000000) (disch := first | assumption | (refine asm_intro ?_; assumption) | exact Nat.le_add_right _ _ | exact Nat.le_refl _ | omega | (simp (disch := first | exact Nat.le_add_right _ _ | omega) only [Le_upd hb, Le_app hb, Le_rfl, free_T hb, free_upd]; done) | fail) only [go_sem, push_cast, and_pos, Le_updF, Le_upd hb, free_T hb, hpre]
  exact ⟨fun _ _ => ⟨by decide, az_lt⟩, isNm_trim s⟩
def W48 : Trans := fun args H Bd K => ∃ (n : Int) (low : Int) (high : Int), args = [.int .i64 (n), .int .i64 (low), .int .i64 (high)] ∧ (K (.bool (decide (low ≤ n ∧ n ≤ high))) H Bd)
@[go_sem ↓] theorem W48_eq (n : Int) (low : Int) (high : Int) (H : AH) (Bd : Nat) (K : Value → AH → Nat → Prop) : W48 [.int .i64 (n), .int .i64 (low), .int .i64 (high)] H Bd K = (K (.bool (decide (low ≤ n ∧ n ≤ high))) H Bd) := by
  refine propext ⟨fun h => ?_, fun h => ⟨_, _, _, rfl, h⟩⟩
  obtain ⟨n', low', high', e, h⟩ := h
  skip
  skip
  skip
  simp only [List.cons.injEq, Value.agg.injEq, toArr_inj, Value.int.injEq, Value.bool.injEq, Value.string.injEq, Value.slice.injEq, Value.func.injEq, Value.pointer.injEq, Option.some.injEq, Addr.mk.injEq, lst_inj, true_and, and_true] at e
  obtain ⟨rfl, rfl, rfl⟩ := e
  exact h
theorem W48_ok : OK 48 W48 := by
  rintro args H Bd K ⟨n, low, high, rfl, hK⟩
  refine fn_pure pok (Env.base _) [(1, [], [], (.k 4 (.grp true 10 13 3 [11, 12, 13] 14 none (.k 3 .nil) (.k 1 .nil))))] _ hK Tryd.func48 rfl (rs := [.tmp 6]) rfl Tryd.ntmps48 (by simp) Tryd.call48 (by kernel_rfl) (fun ha hb => .bool _) (fun hb ha => ?_)
  simp (maxSteps := 2000000) (disch := first | assumption | (refine asm_intro ?_; assumption) | exact Nat.le_add_right _ _ | exact Nat.le_refl _ | omega | (simp (disch := first | exact Nat.le_add_right _ _ | omega) only [Le_upd hb, Le_app hb, Le_rfl, free_T hb, free_upd]; done) | fail) only [go_sem, push_cast, and_pos, Le_updF, Le_upd hb, free_T hb]
  all_goals first | done | trivial | ((try simp only [Cnp, Imp]); grind)
theorem G52 (g : Nat) (caps : Array Value) (p : GSymbol → Bool) (xs : List GSymbol) (H : AH) (Bd : Nat) (K : Value → AH → Nat → Prop) (hsm : sm xs) (hg : ∀ x ∈ xs, ∀ B, Bd ≤ B → ∀ K' : Value → AH → Nat → Prop, K' (.bool (p x)) H B → SCalls Tryd.prog g (idS ((.agg (enc (x)).toArray) :: caps.toList)) H B K') (hK : K (.int .i64 (fidx p xs)) H Bd) : SCalls Tryd.prog 52 [lst xs, .func (.func g) #[] caps] H Bd K := by
  refine fn_pure pok (Env.base _) [] _ hK Tryd.func52 rfl (rs := [.tmp 4]) rfl Tryd.ntmps52 (by simp) Tryd.call52 (by kernel_rfl) (fun ha hb => .int _ _) (fun hb ha => ?_)
  have hlen := sm_len hsm
  simp (maxSteps := 2000000) (disch := first | assumption | (refine asm_intro ?_; assumption) | exact Nat.le_add_right _ _ | exact Nat.le_refl _ | omega | (simp (disch := first | exact Nat.le_add_right _ _ | omega) only [Le_upd hb, Le_app hb, Le_rfl, free_T hb, free_upd]; done) | fail) only [go_sem, push_cast, and_pos, Le_updF, Le_upd hb, free_T hb]
  refine tr_for (fun i => ∀ j, j < i → ∀ x, xs[j]? = some x → p x = false) (xs.length) (fun i => [(0, lst xs), (1, .func (.func g) #[] caps), (7, .int .i64 xs.length), (8, .int .i64 i)]) (by simp) (by simp only [go_sem, push_cast, and_pos, Le_updF]) ?_
  intro i Bi hIi hii hBi
  refine vq_conv pok (E := (Env.base _)) (PL := []) (by kernel_rfl) ?_
  rcases Nat.lt_or_ge i (xs.length) with hlti | hgei
  · have e1 : xs[i]? = some xs[i] := List.getElem?_eq_getElem hlti
    simp (maxSteps := 2000000) (disch := first | assumption | (refine asm_intro ?_; assumption) | exact Nat.le_add_right _ _ | exact Nat.le_refl _ | omega | (simp (disch := first | exact Nat.le_add_right _ _ | omega) only [Le_upd hb, Le_app hb, Le_rfl, free_T hb, free_upd]; done) | fail) only [go_sem, push_cast, and_pos, Le_updF, Le_upd hb, free_T hb, e1]
    refine hg _ (List.getElem_mem hlti) _ (by omega) _ ?_
    simp (maxSteps := 2000000) (disch := first | assumption | (refine asm_intro ?_; assumption) | exact Nat.le_add_right _ _ | exact Nat.le_refl _ | omega | (simp (disch := first | exact Nat.le_add_right _ _ | omega) only [Le_upd hb, Le_app hb, Le_rfl, free_T hb, free_upd]; done) | fail) only [go_sem, push_cast, and_pos, Le_updF, Le_upd hb, free_T hb, e1]
    exact ⟨fun h => by rw [fidx_hit hlti hIi h], fun h => fun j hj x hx => by
      by_cases e : j = i
      · subst e; rw [e1] at hx; cases hx; simpa using h
      · exact hIi j (by omega) x hx⟩
  · simp (maxSteps := 2000000) (disch := first | assumption | (refine asm_intro ?_; assumption) | exact Nat.le_add_right _ _ | exact Nat.le_refl _ | omega | (simp (disch := first | exact Nat.le_add_right _ _ | omega) only [Le_upd hb, Le_app hb, Le_rfl, free_T hb, free_upd]; done) | fail) only [go_sem, push_cast, and_pos, Le_updF, Le_upd hb, free_T hb]
    refine vq_conv pok (E := (Env.base _)) (PL := []) (by kernel_rfl) ?_
    simp (maxSteps := 2000000) (disch := first | assumption | (refine asm_intro ?_; assumption) | exact Nat.le_add_right _ _ | exact Nat.le_refl _ | omega | (simp (disch := first | exact Nat.le_add_right _ _ | omega) only [Le_upd hb, Le_app hb, Le_rfl, free_T hb, free_upd]; done) | fail) only [go_sem, push_cast, and_pos, Le_updF, Le_upd hb, free_T hb]
    rw [fidx_none fun j hj x hx => hIi j (by omega) x hx]
def V53 : Trans := fun args H Bd K => ∃ (x : GSymbol) (name : ByteArray), args = [.agg (enc (x)).toArray, .agg (enc (name)).toArray] ∧ (K (.bool (decide (x.name = name))) H Bd)
@[go_sem ↓] theorem V53_eq (x_name : ByteArray) (x_arity : Int) (name : ByteArray) (H : AH) (Bd : Nat) (K : Value → AH → Nat → Prop) : V53 [.agg #[.string (x_name), .int .i64 (x_arity)], .agg #[.string (name)]] H Bd K = (K (.bool (decide ((GSymbol.mk x_name x_arity).name = name))) H Bd) := by
  refine propext ⟨fun h => ?_, fun h => ⟨_, _, rfl, h⟩⟩
  obtain ⟨x', name', e, h⟩ := h
  obtain ⟨xname', xarity'⟩ := x'
  skip
  simp only [enc_GSymbol, enc_int, enc_str, enc_list, enc_bool, enc_byte, List.cons.injEq, Value.agg.injEq, toArr_inj, Value.int.injEq, Value.bool.injEq, Value.string.injEq, Value.slice.injEq, Value.func.injEq, Value.pointer.injEq, Option.some.injEq, Addr.mk.injEq, lst_inj, true_and, and_true] at e
  obtain ⟨⟨rfl, rfl⟩, rfl⟩ := e
  exact h
def W53 : Trans := fun args H Bd K => ∃ (vx pname : Value), args = [vx, pname] ∧ Yld (cellsAt H 1 pname) fun cname => callW V53 [vx, .agg cname.toArray] H Bd K
@[go_sem ↓] theorem W53_eq (vx pname : Value) (H : AH) (Bd : Nat) (K : Value → AH → Nat → Prop) : W53 [vx, pname] H Bd K = (Yld (cellsAt H 1 pname) fun cname => callW V53 (idS [vx, .agg cname.toArray]) H Bd K) := by
  refine propext ⟨fun h => ?_, fun h => ⟨_, _, rfl, h⟩⟩
  obtain ⟨vx', pname', e, h⟩ := h
  simp only [List.cons.injEq, and_true] at e
  obtain ⟨rfl, rfl⟩ := e
  exact h
theorem W53_ok : OK 53 W53 := by
  rintro args H Bd K ⟨vx, pname, rfl, cname, ename, h⟩
  obtain ⟨x, name, e, hK⟩ := h
  simp only [List.cons.injEq, and_true] at e
  obtain ⟨rfl, Ename⟩ := e
  obtain rfl := agg_inj Ename
  refine fn_pure pok (Env.base _) [] _ hK Tryd.func53 rfl (rs := [.tmp 3]) rfl Tryd.ntmps53 (by simp) Tryd.call53 (by kernel_rfl) (fun ha hb => .bool _) (fun hb ha => ?_)
  have Pname := cellsAt_out ename (NB.vpok (ha pname (by simp)))
  simp only [enc_int, enc_str, enc_list, enc_bool, enc_byte] at Pname
  simp (maxSteps := 2000000) (disch := first | assumption | (refine asm_intro ?_; assumption) | exact Nat.le_add_right _ _ | exact Nat.le_refl _ | omega | (simp (disch := first | exact Nat.le_add_right _ _ | omega) only [Le_upd hb, Le_app hb, Le_rfl, free_T hb, free_upd]; done) | fail) only [go_sem, push_cast, and_pos, Le_updF, Le_upd hb, free_T hb, Pname.nil, Pname.fldL (m := 1) rfl, Pname.ldL (m := 1) rfl, Pname.ld0L (m := 1) rfl, Pname.cellsL (m := 1) rfl, Pname.cellsOL (m := 1) rfl]
def V52_53 : Trans := fun args H Bd K => ∃ (xs : List GSymbol) (name : ByteArray), args = [lst (xs), .agg (enc (name)).toArray] ∧ ((sm xs) ∧ K (.int .i64 (fidx (fun x : GSymbol => decide (x.name = name)) xs)) H Bd)
@[go_sem ↓] theorem V52_53_eq (xs : List GSymbol) (name : ByteArray) (H : AH) (Bd : Nat) (K : Value → AH → Nat → Prop) : V52_53 [lst (xs), .agg #[.string (name)]] H Bd K = ((sm xs) ∧ K (.int .i64 (fidx (fun x : GSymbol => decide (x.name = name)) xs)) H Bd) := by
  refine propext ⟨fun h => ?_, fun h => ⟨_, _, rfl, h⟩⟩
  obtain ⟨xs', name', e, h⟩ := h
  skip
  skip
  simp only [enc_int, enc_str, enc_list, enc_bool, enc_byte, List.cons.injEq, Value.agg.injEq, toArr_inj, Value.int.injEq, Value.bool.injEq, Value.string.injEq, Value.slice.injEq, Value.func.injEq, Value.pointer.injEq, Option.some.injEq, Addr.mk.injEq, lst_inj, true_and, and_true] at e
  obtain ⟨rfl, rfl⟩ := e
  exact h
def W52_53 : Trans := fun args H Bd K => ∃ (vxs pname : Value), args = [vxs, .func (.func 53) #[] #[pname]] ∧ Yld (cellsAt H 1 pname) fun cname => callW V52_53 [vxs, .agg cname.toArray] H Bd K
@[go_sem ↓] theorem W52_53_eq (vxs pname : Value) (H : AH) (Bd : Nat) (K : Value → AH → Nat → Prop) : W52_53 [vxs, .func (.func 53) #[] #[pname]] H Bd K = (Yld (cellsAt H 1 pname) fun cname => callW V52_53 (idS [vxs, .agg cname.toArray]) H Bd K) := by
  refine propext ⟨fun h => ?_, fun h => ⟨_, _, rfl, h⟩⟩
  obtain ⟨vxs', pname', e, h⟩ := h
  simp only [List.cons.injEq, Value.func.injEq, toArr_inj, List.cons.injEq, and_true, true_and] at e
  obtain ⟨rfl, rfl⟩ := e
  exact h
theorem W52_53_ok : OK 52 W52_53 := by
  rintro args H Bd K ⟨vxs, pname, rfl, cname, ename, h⟩
  obtain ⟨xs, name, e, hpre, hK⟩ := h
  simp only [List.cons.injEq, and_true] at e
  obtain ⟨rfl, Ename⟩ := e
  obtain rfl := agg_inj Ename
  refine G52 53 #[pname] (fun x : GSymbol => decide (x.name = name)) xs H Bd K hpre (fun x hx B hB K' hk => ?_) hK
  exact W53_ok _ _ _ _ ⟨_, _, rfl, _, ename, x, name, rfl, hk⟩
def W32 : Trans := fun args H Bd K => ∃ (s : GSignature) (name : ByteArray), args = [.agg (enc (s)).toArray, .string (name)] ∧ ((sm s) ∧ K (.int .i64 (symIdx s name)) H Bd)
@[go_sem ↓] theorem W32_eq (s_symbols : List GSymbol) (name : ByteArray) (H : AH) (Bd : Nat) (K : Value → AH → Nat → Prop) : W32 [.agg #[lst (s_symbols)], .string (name)] H Bd K = ((sm (GSignature.mk s_symbols)) ∧ K (.int .i64 (symIdx (GSignature.mk s_symbols) name)) H Bd) := by
  refine propext ⟨fun h => ?_, fun h => ⟨_, _, rfl, h⟩⟩
  obtain ⟨s', name', e, h⟩ := h
  obtain ⟨ssymbols'⟩ := s'
  skip
  simp only [enc_GSignature, List.cons.injEq, Value.agg.injEq, toArr_inj, Value.int.injEq, Value.bool.injEq, Value.string.injEq, Value.slice.injEq, Value.func.injEq, Value.pointer.injEq, Option.some.injEq, Addr.mk.injEq, lst_inj, true_and, and_true] at e
  obtain ⟨rfl, rfl⟩ := e
  exact h
theorem W32_ok : OK 32 W32 := by
  rintro args H Bd K ⟨s, name, rfl, hpre, hK⟩
  refine fn_pure pok ((Env.base _).add 52 _ W52_53_ok) [] _ hK Tryd.func32 rfl (rs := [.tmp 4]) rfl Tryd.ntmps32 (by simp) Tryd.call32 (by kernel_rfl) (fun ha hb => .int _ _) (fun hb ha => ?_)
  simp only [sm_GSignature] at hpre
  simp (maxSteps := 2000000) (disch := first | assumption | (refine asm_intro ?_; assumption) | exact Nat.le_add_right _ _ | exact Nat.le_refl _ | omega | (simp (disch := first | exact Nat.le_add_right _ _ | omega) only [Le_upd hb, Le_app hb, Le_rfl, free_T hb, free_upd]; done) | fail) only [go_sem, push_cast, and_pos, Le_updF, Le_upd hb, free_T hb, hpre]
  try rfl
theorem G49 (g : Nat) (caps : Array Value) (p : GSymbol → Bool) (xs : List GSymbol) (H : AH) (Bd : Nat) (K : Value → AH → Nat → Prop) (hsm : sm xs) (hg : ∀ x ∈ xs, ∀ B, Bd ≤ B → ∀ K' : Value → AH → Nat → Prop, K' (.bool (p x)) H B → SCalls Tryd.prog g (idS ((.agg (enc (x)).toArray) :: caps.toList)) H B K') (hK : K (.bool (xs.any p)) H Bd) : SCalls Tryd.prog 49 [lst xs, .func (.func g) #[] caps] H Bd K := by
  refine fn_pure pok (Env.base _) [] _ hK Tryd.func49 rfl (rs := [.tmp 4]) rfl Tryd.ntmps49 (by simp) Tryd.call49 (by kernel_rfl) (fun ha hb => .bool _) (fun hb ha => ?_)
  simp (maxSteps := 2000000) (disch := first | assumption | (refine asm_intro ?_; assumption) | exact Nat.le_add_right _ _ | exact Nat.le_refl _ | omega | (simp (disch := first | exact Nat.le_add_right _ _ | omega) only [Le_upd hb, Le_app hb, Le_rfl, free_T hb, free_upd]; done) | fail) only [go_sem, push_cast, and_pos, Le_updF, Le_upd hb, free_T hb]
  refine G52 _ _ p xs _ _ _ hsm hg ?_
  simp (maxSteps := 2000000) (disch := first | assumption | (refine asm_intro ?_; assumption) | exact Nat.le_add_right _ _ | exact Nat.le_refl _ | omega | (simp (disch := first | exact Nat.le_add_right _ _ | omega) only [Le_upd hb, Le_app hb, Le_rfl, free_T hb, free_upd]; done) | fail) only [go_sem, push_cast, and_pos, Le_updF, Le_upd hb, free_T hb]
  exact fidx_ge p xs
def W50 : Trans := fun args H Bd K => ∃ (x : GSymbol), args = [.agg (enc (x)).toArray] ∧ (K (.bool (decide (x.arity = 0))) H Bd)
@[go_sem ↓] theorem W50_eq (x_name : ByteArray) (x_arity : Int) (H : AH) (Bd : Nat) (K : Value → AH → Nat → Prop) : W50 [.agg #[.string (x_name), .int .i64 (x_arity)]] H Bd K = (K (.bool (decide ((GSymbol.mk x_name x_arity).arity = 0))) H Bd) := by
  refine propext ⟨fun h => ?_, fun h => ⟨_, rfl, h⟩⟩
  obtain ⟨x', e, h⟩ := h
  obtain ⟨xname', xarity'⟩ := x'
  simp only [enc_GSymbol, List.cons.injEq, Value.agg.injEq, toArr_inj, Value.int.injEq, Value.bool.injEq, Value.string.injEq, Value.slice.injEq, Value.func.injEq, Value.pointer.injEq, Option.some.injEq, Addr.mk.injEq, lst_inj, true_and, and_true] at e
  obtain ⟨rfl, rfl⟩ := e
  exact h
theorem W50_ok : OK 50 W50 := by
  rintro args H Bd K ⟨x, rfl, hK⟩
  refine fn_pure pok (Env.base _) [] _ hK Tryd.func50 rfl (rs := [.tmp 2]) rfl Tryd.ntmps50 (by simp) Tryd.call50 (by kernel_rfl) (fun ha hb => .bool _) (fun hb ha => ?_)
  simp (maxSteps := 2000000) (disch := first | assumption | (refine asm_intro ?_; assumption) | exact Nat.le_add_right _ _ | exact Nat.le_refl _ | omega | (simp (disch := first | exact Nat.le_add_right _ _ | omega) only [Le_upd hb, Le_app hb, Le_rfl, free_T hb, free_upd]; done) | fail) only [go_sem, push_cast, and_pos, Le_updF, Le_upd hb, free_T hb]
def V49_50 : Trans := fun args H Bd K => ∃ (xs : List GSymbol), args = [lst (xs)] ∧ ((sm xs) ∧ K (.bool (xs.any (fun x : GSymbol => decide (x.arity = 0)))) H Bd)
@[go_sem ↓] theorem V49_50_eq (xs : List GSymbol) (H : AH) (Bd : Nat) (K : Value → AH → Nat → Prop) : V49_50 [lst (xs)] H Bd K = ((sm xs) ∧ K (.bool (xs.any (fun x : GSymbol => decide (x.arity = 0)))) H Bd) := by
  refine propext ⟨fun h => ?_, fun h => ⟨_, rfl, h⟩⟩
  obtain ⟨xs', e, h⟩ := h
  skip
  simp only [List.cons.injEq, Value.agg.injEq, toArr_inj, Value.int.injEq, Value.bool.injEq, Value.string.injEq, Value.slice.injEq, Value.func.injEq, Value.pointer.injEq, Option.some.injEq, Addr.mk.injEq, lst_inj, true_and, and_true] at e
  obtain rfl := e
  exact h
def W49_50 : Trans := fun args H Bd K => ∃ (vxs : Value), args = [vxs, .func (.func 50) #[] #[]] ∧ callW V49_50 [vxs] H Bd K
@[go_sem ↓] theorem W49_50_eq (vxs : Value) (H : AH) (Bd : Nat) (K : Value → AH → Nat → Prop) : W49_50 [vxs, .func (.func 50) #[] #[]] H Bd K = (callW V49_50 (idS [vxs]) H Bd K) := by
  refine propext ⟨fun h => ?_, fun h => ⟨_, rfl, h⟩⟩
  obtain ⟨vxs', e, h⟩ := h
  simp only [List.cons.injEq, Value.func.injEq, toArr_inj, List.cons.injEq, and_true, true_and] at e
  obtain rfl := e
  exact h
theorem W49_50_ok : OK 49 W49_50 := by
  rintro args H Bd K ⟨vxs, rfl, h⟩
  obtain ⟨xs, e, hpre, hK⟩ := h
  simp only [List.cons.injEq, and_true] at e
  obtain rfl := e
  refine G49 50 #[] (fun x : GSymbol => decide (x.arity = 0)) xs H Bd K hpre (fun x hx B hB K' hk => ?_) hK
  exact W50_ok _ _ _ _ ⟨x, rfl, hk⟩
def W30 : Trans := fun args H Bd K => ∃ (s : GSignature), args = [.agg (enc (s)).toArray] ∧ ((sm s) ∧ K (.int .i64 (sigF s)) H Bd)
@[go_sem ↓] theorem W30_eq (s_symbols : List GSymbol) (H : AH) (Bd : Nat) (K : Value → AH → Nat → Prop) : W30 [.agg #[lst (s_symbols)]] H Bd K = ((sm (GSignature.mk s_symbols)) ∧ K (.int .i64 (sigF (GSignature.mk s_symbols))) H Bd) := by
  refine propext ⟨fun h => ?_, fun h => ⟨_, rfl, h⟩⟩
  obtain ⟨s', e, h⟩ := h
  obtain ⟨ssymbols'⟩ := s'
  simp only [enc_GSignature, List.cons.injEq, Value.agg.injEq, toArr_inj, Value.int.injEq, Value.bool.injEq, Value.string.injEq, Value.slice.injEq, Value.func.injEq, Value.pointer.injEq, Option.some.injEq, Addr.mk.injEq, lst_inj, true_and, and_true] at e
  obtain rfl := e
  exact h
set_option maxHeartbeats 2000000 in
theorem W30_ok : OK 30 W30 := by
  rintro args H Bd K ⟨s, rfl, hpre, hK⟩
  refine fn_pure pok (((((Env.base _).add 47 _ W47_ok).add 48 _ W48_ok).add 32 _ W32_ok).add 49 _ W49_50_ok) [(1, [], [], (.k 5 (.grp false 11 15 4 [12, 13, 14, 15] 16 none (.k 4 .nil) .nil)))] _ hK Tryd.func30 rfl (rs := [.tmp 2]) rfl Tryd.ntmps30 (by simp) Tryd.call30 (by kernel_rfl) (fun ha hb => .int _ _) (fun hb ha => ?_)
  simp only [sm_GSignature] at hpre
  have hlen := sm_len hpre
  have hss : sm s := hpre
  simp (maxSteps := 2000000) (disch := first | assumption | (refine asm_intro ?_; assumption) | exact Nat.le_add_right _ _ | exact Nat.le_refl _ | omega | (simp (disch := first | exact Nat.le_add_right _ _ | omega) only [Le_upd hb, Le_app hb, Le_rfl, free_T hb, free_upd]; done) | fail) only [go_sem, push_cast, and_pos, Le_updF, Le_upd hb, free_T hb]
  refine ⟨fun h => by unfold sigF; rw [if_pos (by omega)], fun h1 h2 => ?_⟩
  have hs : sigF s = sigG s := by unfold sigF; rw [if_neg (by omega)]
  rw [hs]
  refine tr_for (fun i => symL (s.symbols.drop i) = symL s.symbols) (s.symbols.length) (fun i => [(1, .pointer (some ⟨Bd, 0, none⟩)), (18, lst s.symbols), (19, .int .i64 s.symbols.length), (20, .int .i64 i)]) (by simp) (by simp only [go_sem, push_cast, and_pos, Le_updF]) ?_
  intro i Bi hIi hii hBi
  refine vq_conv pok (E := (((((Env.base _).add 47 _ W47_ok).add 48 _ W48_ok).add 32 _ W32_ok).add 49 _ W49_50_ok)) (PL := [(1, [], [], (.k 5 (.grp false 11 15 4 [12, 13, 14, 15] 16 none (.k 4 .nil) .nil)))]) (by kernel_rfl) ?_
  rcases Nat.lt_or_ge i (s.symbols.length) with hlti | hgei
  · have e1 : s.symbols[i]? = some s.symbols[i] := List.getElem?_eq_getElem hlti
    have hd := List.drop_eq_getElem_cons hlti
    have hx := sm_mem hpre (List.getElem_mem hlti)
    simp only [sm_GSymbol, sm_str, sm_int, and_true] at hx
    rw [hd, symL] at hIi
    simp (maxSteps := 2000000) (disch := first | assumption | (refine asm_intro ?_; assumption) | exact Nat.le_add_right _ _ | exact Nat.le_refl _ | omega | (simp (disch := first | exact Nat.le_add_right _ _ | omega) only [Le_upd hb, Le_app hb, Le_rfl, free_T hb, free_upd]; done) | fail) only [go_sem, push_cast, and_pos, Le_updF, Le_upd hb, free_T hb, e1, hx]
    generalize symL (List.drop (i + 1) s.symbols) = q at *
    unfold sigG
    all_goals first | done | trivial | ((try simp only [Cnp, Imp]); grind)
  · simp (maxSteps := 2000000) (disch := first | assumption | (refine asm_intro ?_; assumption) | exact Nat.le_add_right _ _ | exact Nat.le_refl _ | omega | (simp (disch := first | exact Nat.le_add_right _ _ | omega) only [Le_upd hb, Le_app hb, Le_rfl, free_T hb, free_upd]; done) | fail) only [go_sem, push_cast, and_pos, Le_updF, Le_upd hb, free_T hb]
    refine vq_conv pok (E := (((((Env.base _).add 47 _ W47_ok).add 48 _ W48_ok).add 32 _ W32_ok).add 49 _ W49_50_ok)) (PL := [(1, [], [], (.k 5 (.grp false 11 15 4 [12, 13, 14, 15] 16 none (.k 4 .nil) .nil)))]) (by kernel_rfl) ?_
    simp (maxSteps := 2000000) (disch := first | assumption | (refine asm_intro ?_; assumption) | exact Nat.le_add_right _ _ | exact Nat.le_refl _ | omega | (simp (disch := first | exact Nat.le_add_right _ _ | omega) only [Le_upd hb, Le_app hb, Le_rfl, free_T hb, free_upd]; done) | fail) only [go_sem, push_cast, and_pos, Le_updF, Le_upd hb, free_T hb]
    have h0 : symL s.symbols = 0 := by rw [← hIi, List.drop_of_length_le hgei]; rfl
    refine tr_for (fun j => ∀ a b x y, b < a → a < j → s.symbols[a]? = some x → s.symbols[b]? = some y → x.name ≠ y.name) (s.symbols.length) (fun j => [(1, .pointer (some ⟨Bd, 0, none⟩)), (34, lst s.symbols), (35, .int .i64 s.symbols.length), (36, .int .i64 j)]) (by simp) (by simp only [go_sem, push_cast, and_pos, Le_updF]) ?_
    intro j Bj hIj hij hBj
    refine vq_conv pok (E := (((((Env.base _).add 47 _ W47_ok).add 48 _ W48_ok).add 32 _ W32_ok).add 49 _ W49_50_ok)) (PL := [(1, [], [], (.k 5 (.grp false 11 15 4 [12, 13, 14, 15] 16 none (.k 4 .nil) .nil)))]) (by kernel_rfl) ?_
    rcases Nat.lt_or_ge j (s.symbols.length) with hltj | hgej
    · have e1 : s.symbols[j]? = some s.symbols[j] := List.getElem?_eq_getElem hltj
      simp (maxSteps := 2000000) (disch := first | assumption | (refine asm_intro ?_; assumption) | exact Nat.le_add_right _ _ | exact Nat.le_refl _ | omega | (simp (disch := first | exact Nat.le_add_right _ _ | omega) only [Le_upd hb, Le_app hb, Le_rfl, free_T hb, free_upd]; done) | fail) only [go_sem, push_cast, and_pos, Le_updF, Le_upd hb, free_T hb, e1, hss]
      refine ⟨fun h => ?_, fun h => ?_⟩
      · intro a b x y h1 h2 h3 h4
        by_cases e : a = j
        · subst e
          rw [e1] at h3; cases h3
          rw [List.getElem?_eq_getElem (by omega)] at h4; cases h4
          exact (((symIdx_self hltj).1 h) b h1).symm
        · exact hIj a b x y h1 (by omega) h3 h4
      · have : ¬ (s.symbols.map (·.name)).Nodup := fun hn => h ((symIdx_self hltj).2 fun k hk e => nodup_map_not (f := (·.name)) hk hltj e.symm hn)
        unfold sigG
        rw [if_neg (by simp [h0]), if_pos this]
    · simp (maxSteps := 2000000) (disch := first | assumption | (refine asm_intro ?_; assumption) | exact Nat.le_add_right _ _ | exact Nat.le_refl _ | omega | (simp (disch := first | exact Nat.le_add_right _ _ | omega) only [Le_upd hb, Le_app hb, Le_rfl, free_T hb, free_upd]; done) | fail) only [go_sem, push_cast, and_pos, Le_updF, Le_upd hb, free_T hb]
      refine vq_conv pok (E := (((((Env.base _).add 47 _ W47_ok).add 48 _ W48_ok).add 32 _ W32_ok).add 49 _ W49_50_ok)) (PL := [(1, [], [], (.k 5 (.grp false 11 15 4 [12, 13, 14, 15] 16 none (.k 4 .nil) .nil)))]) (by kernel_rfl) ?_
      simp (maxSteps := 2000000) (disch := first | assumption | (refine asm_intro ?_; assumption) | exact Nat.le_add_right _ _ | exact Nat.le_refl _ | omega | (simp (disch := first | exact Nat.le_add_right _ _ | omega) only [Le_upd hb, Le_app hb, Le_rfl, free_T hb, free_upd]; done) | fail) only [go_sem, push_cast, and_pos, Le_updF, Le_upd hb, free_T hb, hpre]
      have h7 : (s.symbols.map (·.name)).Nodup := nodup_map fun i j x y h1 h2 h3 h4 => hIj i j x y h1 (by omega) h3 h4
      unfold sigG
      rw [if_neg (by simp [h0]), if_neg (by simp [h7])]
      all_goals first | done | trivial | ((try simp only [Cnp, Imp]); grind)
theorem G64 (g : Nat) (caps : Array Value) (p : Int → Bool) (xs : List Int) (H : AH) (Bd : Nat) (K : Value → AH → Nat → Prop) (hsm : sm xs) (hg : ∀ x ∈ xs, ∀ B, Bd ≤ B → ∀ K' : Value → AH → Nat → Prop, K' (.bool (p x)) H B → SCalls Tryd.prog g (idS ((.int .i64 (x)) :: caps.toList)) H B K') (hK : K (.int .i64 (fidx p xs)) H Bd) : SCalls Tryd.prog 64 [lst xs, .func (.func g) #[] caps] H Bd K := by
  refine fn_pure pok (Env.base _) [] _ hK Tryd.func64 rfl (rs := [.tmp 4]) rfl Tryd.ntmps64 (by simp) Tryd.call64 (by kernel_rfl) (fun ha hb => .int _ _) (fun hb ha => ?_)
  have hlen := sm_len hsm
  simp (maxSteps := 2000000) (disch := first | assumption | (refine asm_intro ?_; assumption) | exact Nat.le_add_right _ _ | exact Nat.le_refl _ | omega | (simp (disch := first | exact Nat.le_add_right _ _ | omega) only [Le_upd hb, Le_app hb, Le_rfl, free_T hb, free_upd]; done) | fail) only [go_sem, push_cast, and_pos, Le_updF, Le_upd hb, free_T hb]
  refine tr_for (fun i => ∀ j, j < i → ∀ x, xs[j]? = some x → p x = false) (xs.length) (fun i => [(0, lst xs), (1, .func (.func g) #[] caps), (7, .int .i64 xs.length), (8, .int .i64 i)]) (by simp) (by simp only [go_sem, push_cast, and_pos, Le_updF]) ?_
  intro i Bi hIi hii hBi
  refine vq_conv pok (E := (Env.base _)) (PL := []) (by kernel_rfl) ?_
  rcases Nat.lt_or_ge i (xs.length) with hlti | hgei
  · have e1 : xs[i]? = some xs[i] := List.getElem?_eq_getElem hlti
    simp (maxSteps := 2000000) (disch := first | assumption | (refine asm_intro ?_; assumption) | exact Nat.le_add_right _ _ | exact Nat.le_refl _ | omega | (simp (disch := first | exact Nat.le_add_right _ _ | omega) only [Le_upd hb, Le_app hb, Le_rfl, free_T hb, free_upd]; done) | fail) only [go_sem, push_cast, and_pos, Le_updF, Le_upd hb, free_T hb, e1]
    refine hg _ (List.getElem_mem hlti) _ (by omega) _ ?_
    simp (maxSteps := 2000000) (disch := first | assumption | (refine asm_intro ?_; assumption) | exact Nat.le_add_right _ _ | exact Nat.le_refl _ | omega | (simp (disch := first | exact Nat.le_add_right _ _ | omega) only [Le_upd hb, Le_app hb, Le_rfl, free_T hb, free_upd]; done) | fail) only [go_sem, push_cast, and_pos, Le_updF, Le_upd hb, free_T hb, e1]
    exact ⟨fun h => by rw [fidx_hit hlti hIi h], fun h => fun j hj x hx => by
      by_cases e : j = i
      · subst e; rw [e1] at hx; cases hx; simpa using h
      · exact hIi j (by omega) x hx⟩
  · simp (maxSteps := 2000000) (disch := first | assumption | (refine asm_intro ?_; assumption) | exact Nat.le_add_right _ _ | exact Nat.le_refl _ | omega | (simp (disch := first | exact Nat.le_add_right _ _ | omega) only [Le_upd hb, Le_app hb, Le_rfl, free_T hb, free_upd]; done) | fail) only [go_sem, push_cast, and_pos, Le_updF, Le_upd hb, free_T hb]
    refine vq_conv pok (E := (Env.base _)) (PL := []) (by kernel_rfl) ?_
    simp (maxSteps := 2000000) (disch := first | assumption | (refine asm_intro ?_; assumption) | exact Nat.le_add_right _ _ | exact Nat.le_refl _ | omega | (simp (disch := first | exact Nat.le_add_right _ _ | omega) only [Le_upd hb, Le_app hb, Le_rfl, free_T hb, free_upd]; done) | fail) only [go_sem, push_cast, and_pos, Le_updF, Le_upd hb, free_T hb]
    rw [fidx_none fun j hj x hx => hIi j (by omega) x hx]
theorem G54 (g : Nat) (caps : Array Value) (p : Int → Bool) (xs : List Int) (H : AH) (Bd : Nat) (K : Value → AH → Nat → Prop) (hsm : sm xs) (hg : ∀ x ∈ xs, ∀ B, Bd ≤ B → ∀ K' : Value → AH → Nat → Prop, K' (.bool (p x)) H B → SCalls Tryd.prog g (idS ((.int .i64 (x)) :: caps.toList)) H B K') (hK : K (.bool (xs.any p)) H Bd) : SCalls Tryd.prog 54 [lst xs, .func (.func g) #[] caps] H Bd K := by
  refine fn_pure pok (Env.base _) [] _ hK Tryd.func54 rfl (rs := [.tmp 4]) rfl Tryd.ntmps54 (by simp) Tryd.call54 (by kernel_rfl) (fun ha hb => .bool _) (fun hb ha => ?_)
  simp (maxSteps := 2000000) (disch := first | assumption | (refine asm_intro ?_; assumption) | exact Nat.le_add_right _ _ | exact Nat.le_refl _ | omega | (simp (disch := first | exact Nat.le_add_right _ _ | omega) only [Le_upd hb, Le_app hb, Le_rfl, free_T hb, free_upd]; done) | fail) only [go_sem, push_cast, and_pos, Le_updF, Le_upd hb, free_T hb]
  refine G64 _ _ p xs _ _ _ hsm hg ?_
  simp (maxSteps := 2000000) (disch := first | assumption | (refine asm_intro ?_; assumption) | exact Nat.le_add_right _ _ | exact Nat.le_refl _ | omega | (simp (disch := first | exact Nat.le_add_right _ _ | omega) only [Le_upd hb, Le_app hb, Le_rfl, free_T hb, free_upd]; done) | fail) only [go_sem, push_cast, and_pos, Le_updF, Le_upd hb, free_T hb]
  exact fidx_ge p xs
def W56 : Trans := fun args H Bd K => ∃ (s : GSignature) (n : Int), args = [.agg (enc (s)).toArray, .int .i64 (n)] ∧ ((sm s ∧ R64 n) ∧ K (.bool (isSym s n)) H Bd)
@[go_sem ↓] theorem W56_eq (s_symbols : List GSymbol) (n : Int) (H : AH) (Bd : Nat) (K : Value → AH → Nat → Prop) : W56 [.agg #[lst (s_symbols)], .int .i64 (n)] H Bd K = ((sm (GSignature.mk s_symbols) ∧ R64 n) ∧ K (.bool (isSym (GSignature.mk s_symbols) n)) H Bd) := by
  refine propext ⟨fun h => ?_, fun h => ⟨_, _, rfl, h⟩⟩
  obtain ⟨s', n', e, h⟩ := h
  obtain ⟨ssymbols'⟩ := s'
  skip
  simp only [enc_GSignature, List.cons.injEq, Value.agg.injEq, toArr_inj, Value.int.injEq, Value.bool.injEq, Value.string.injEq, Value.slice.injEq, Value.func.injEq, Value.pointer.injEq, Option.some.injEq, Addr.mk.injEq, lst_inj, true_and, and_true] at e
  obtain ⟨rfl, rfl⟩ := e
  exact h
theorem W56_ok : OK 56 W56 := by
  rintro args H Bd K ⟨s, n, rfl, hpre, hK⟩
  refine fn_pure pok ((Env.base _).add 48 _ W48_ok) [] _ hK Tryd.func56 rfl (rs := [.tmp 4]) rfl Tryd.ntmps56 (by simp) Tryd.call56 (by kernel_rfl) (fun ha hb => .bool _) (fun hb ha => ?_)
  obtain ⟨h1, h2⟩ := hpre
  simp only [sm_GSignature] at h1
  have hlen := sm_len h1
  simp (maxSteps := 2000000) (disch := first | assumption | (refine asm_intro ?_; assumption) | exact Nat.le_add_right _ _ | exact Nat.le_refl _ | omega | (simp (disch := first | exact Nat.le_add_right _ _ | omega) only [Le_upd hb, Le_app hb, Le_rfl, free_T hb, free_upd]; done) | fail) only [go_sem, push_cast, and_pos, Le_updF, Le_upd hb, free_T hb]
  unfold isSym
  all_goals first | done | trivial | ((try simp only [Cnp, Imp]); grind)
def V55 : Trans := fun args H Bd K => ∃ (n : Int) (s : GSignature), args = [.int .i64 (n), .agg (enc (s)).toArray] ∧ ((sm s ∧ R64 n) ∧ K (.bool (!isSym s n)) H Bd)
@[go_sem ↓] theorem V55_eq (n : Int) (s_symbols : List GSymbol) (H : AH) (Bd : Nat) (K : Value → AH → Nat → Prop) : V55 [.int .i64 (n), .agg #[lst (s_symbols)]] H Bd K = ((sm (GSignature.mk s_symbols) ∧ R64 n) ∧ K (.bool (!isSym (GSignature.mk s_symbols) n)) H Bd) := by
  refine propext ⟨fun h => ?_, fun h => ⟨_, _, rfl, h⟩⟩
  obtain ⟨n', s', e, h⟩ := h
  skip
  obtain ⟨ssymbols'⟩ := s'
  simp only [enc_GSignature, enc_int, enc_str, enc_list, enc_bool, enc_byte, List.cons.injEq, Value.agg.injEq, toArr_inj, Value.int.injEq, Value.bool.injEq, Value.string.injEq, Value.slice.injEq, Value.func.injEq, Value.pointer.injEq, Option.some.injEq, Addr.mk.injEq, lst_inj, true_and, and_true] at e
  obtain ⟨rfl, rfl⟩ := e
  exact h
def W55 : Trans := fun args H Bd K => ∃ (vn ps : Value), args = [vn, ps] ∧ Yld (cellsAt H 1 ps) fun cs => callW V55 [vn, .agg cs.toArray] H Bd K
@[go_sem ↓] theorem W55_eq (vn ps : Value) (H : AH) (Bd : Nat) (K : Value → AH → Nat → Prop) : W55 [vn, ps] H Bd K = (Yld (cellsAt H 1 ps) fun cs => callW V55 (idS [vn, .agg cs.toArray]) H Bd K) := by
  refine propext ⟨fun h => ?_, fun h => ⟨_, _, rfl, h⟩⟩
  obtain ⟨vn', ps', e, h⟩ := h
  simp only [List.cons.injEq, and_true] at e
  obtain ⟨rfl, rfl⟩ := e
  exact h
theorem W55_ok : OK 55 W55 := by
  rintro args H Bd K ⟨vn, ps, rfl, cs, es, h⟩
  obtain ⟨n, s, e, hpre, hK⟩ := h
  simp only [List.cons.injEq, and_true] at e
  obtain ⟨rfl, Es⟩ := e
  obtain rfl := agg_inj Es
  refine fn_pure pok ((Env.base _).add 56 _ W56_ok) [] _ hK Tryd.func55 rfl (rs := [.tmp 3]) rfl Tryd.ntmps55 (by simp) Tryd.call55 (by kernel_rfl) (fun ha hb => .bool _) (fun hb ha => ?_)
  have Ps := cellsAt_out es (NB.vpok (ha ps (by simp)))
  simp only [enc_GSignature] at Ps
  simp (maxSteps := 2000000) (disch := first | assumption | (refine asm_intro ?_; assumption) | exact Nat.le_add_right _ _ | exact Nat.le_refl _ | omega | (simp (disch := first | exact Nat.le_add_right _ _ | omega) only [Le_upd hb, Le_app hb, Le_rfl, free_T hb, free_upd]; done) | fail) only [go_sem, push_cast, and_pos, Le_updF, Le_upd hb, free_T hb, Ps.nil, Ps.fldL (m := 1) rfl, Ps.ldL (m := 1) rfl, Ps.ld0L (m := 1) rfl, Ps.cellsL (m := 1) rfl, Ps.cellsOL (m := 1) rfl, hpre]

def V54_55 : Trans := fun args H Bd K => ∃ (xs : List Int) (s : GSignature), args = [lst (xs), .agg (enc (s)).toArray] ∧ ((sm xs ∧ ∀ n ∈ xs, sm s ∧ R64 n) ∧ K (.bool (xs.any (fun n : Int => !isSym s n))) H Bd)
@[go_sem ↓] theorem V54_55_eq (xs : List Int) (s_symbols : List GSymbol) (H : AH) (Bd : Nat) (K : Value → AH → Nat → Prop) : V54_55 [lst (xs), .agg #[lst (s_symbols)]] H Bd K = ((sm xs ∧ ∀ n ∈ xs, sm (GSignature.mk s_symbols) ∧ R64 n) ∧ K (.bool (xs.any (fun n : Int => !isSym (GSignature.mk s_symbols) n))) H Bd) := by
  refine propext ⟨fun h => ?_, fun h => ⟨_, _, rfl, h⟩⟩
  obtain ⟨xs', s', e, h⟩ := h
  skip
  obtain ⟨ssymbols'⟩ := s'
  simp only [enc_GSignature, enc_int, enc_str, enc_list, enc_bool, enc_byte, List.cons.injEq, Value.agg.injEq, toArr_inj, Value.int.injEq, Value.bool.injEq, Value.string.injEq, Value.slice.injEq, Value.func.injEq, Value.pointer.injEq, Option.some.injEq, Addr.mk.injEq, lst_inj, true_and, and_true] at e
  obtain ⟨rfl, rfl⟩ := e
  exact h
def W54_55 : Trans := fun args H Bd K => ∃ (vxs ps : Value), args = [vxs, .func (.func 55) #[] #[ps]] ∧ Yld (cellsAt H 1 ps) fun cs => callW V54_55 [vxs, .agg cs.toArray] H Bd K
@[go_sem ↓] theorem W54_55_eq (vxs ps : Value) (H : AH) (Bd : Nat) (K : Value → AH → Nat → Prop) : W54_55 [vxs, .func (.func 55) #[] #[ps]] H Bd K = (Yld (cellsAt H 1 ps) fun cs => callW V54_55 (idS [vxs, .agg cs.toArray]) H Bd K) := by
  refine propext ⟨fun h => ?_, fun h => ⟨_, _, rfl, h⟩⟩
  obtain ⟨vxs', ps', e, h⟩ := h
  simp only [List.cons.injEq, Value.func.injEq, toArr_inj, List.cons.injEq, and_true, true_and] at e
  obtain ⟨rfl, rfl⟩ := e
  exact h
theorem W54_55_ok : OK 54 W54_55 := by
  rintro args H Bd K ⟨vxs, ps, rfl, cs, es, h⟩
  obtain ⟨xs, s, e, hpre, hK⟩ := h
  simp only [List.cons.injEq, and_true] at e
  obtain ⟨rfl, Es⟩ := e
  obtain rfl := agg_inj Es
  refine G54 55 #[ps] (fun n : Int => !isSym s n) xs H Bd K hpre.1 (fun x hx B hB K' hk => ?_) hK
  exact W55_ok _ _ _ _ ⟨_, _, rfl, _, es, x, s, rfl, hpre.2 x hx, hk⟩

end Go.Proofs.YthhcemhignihlaaDoor
