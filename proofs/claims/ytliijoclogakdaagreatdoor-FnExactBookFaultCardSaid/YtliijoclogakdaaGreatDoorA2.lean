/- YtliijoclogakdaaGreatDoorA2 -/
import Derived.Test.YtliijoclogakdaaGreatDoorA1
set_option linter.unusedSimpArgs false
set_option linter.unusedVariables false
set_option maxRecDepth 20000
namespace Go.Proofs.YtliijoclogakdaaGreatDoor
open Go Go.SC
def W101 : Trans := fun args H Bd K => ∃ (t : List Int), args = [lst (t)] ∧ ((sm t) ∧ K (.bool (lowB t)) H Bd)
@[go_sem ↓] theorem W101_eq (t : List Int) (H : AH) (Bd : Nat) (K : Value → AH → Nat → Prop) : W101 [lst (t)] H Bd K = ((sm t) ∧ K (.bool (lowB t)) H Bd) := by
  refine propext ⟨fun h => ?_, fun h => ⟨_, rfl, h⟩⟩
  obtain ⟨t', e, h⟩ := h
  skip
  simp only [List.cons.injEq, Value.agg.injEq, toArr_inj, Value.int.injEq, Value.bool.injEq, Value.string.injEq, Value.slice.injEq, Value.func.injEq, Value.pointer.injEq, Option.some.injEq, Addr.mk.injEq, lst_inj, true_and, and_true] at e
  obtain rfl := e
  exact h
theorem W101_ok : OK 101 W101 := by
  rintro args H Bd K ⟨t, rfl, hpre, hK⟩
  refine fn_pure pok (Env.base _) [] _ hK Tryz.func101 rfl (rs := [.tmp 2]) rfl Tryz.ntmps101 (by simp) Tryz.call101 (by kernel_rfl) (fun ha hb => .bool _) (fun hb ha => ?_)
  have hlt2 := sm_len hpre
  simp (maxSteps := 2000000) (disch := first | assumption | (refine asm_intro ?_; assumption) | exact Nat.le_add_right _ _ | exact Nat.le_refl _ | omega | (simp (disch := first | exact Nat.le_add_right _ _ | omega) only [Le_upd hb, Le_app hb, Le_rfl, free_T hb, free_upd]; done) | fail) only [go_sem, push_cast, and_pos, Le_updF, Le_upd hb, free_T hb]
  refine tr_for (fun i => ∀ j, j < i → ∀ n, t[j]? = some n → -6 ≤ n) (t.length) (fun i => [(0, lst t), (3, .int .i64 i)]) (fun j hj => absurd hj (Nat.not_lt_zero _)) (by simp only [go_sem, push_cast, and_pos, Le_updF]) ?_
  intro i Bi hIi hii hBi
  refine vq_conv pok (E := (Env.base _)) (PL := []) (by kernel_rfl) ?_
  rcases Nat.lt_or_ge i (t.length) with hlti | hgei
  · have e1 : t[i]? = some t[i] := List.getElem?_eq_getElem hlti
    simp (maxSteps := 2000000) (disch := first | assumption | (refine asm_intro ?_; assumption) | exact Nat.le_add_right _ _ | exact Nat.le_refl _ | omega | (simp (disch := first | exact Nat.le_add_right _ _ | omega) only [Le_upd hb, Le_app hb, Le_rfl, free_T hb, free_upd]; done) | fail) only [go_sem, push_cast, and_pos, Le_updF, Le_upd hb, free_T hb, e1]
    refine ⟨fun h => ?_, fun h j hj n hn => ?_⟩
    · exact (all_no (List.getElem_mem hlti) (by simpa using h)).symm
    · by_cases e : j = i
      · subst e; rw [e1] at hn; cases hn; omega
      · exact hIi j (by omega) n hn
  · simp (maxSteps := 2000000) (disch := first | assumption | (refine asm_intro ?_; assumption) | exact Nat.le_add_right _ _ | exact Nat.le_refl _ | omega | (simp (disch := first | exact Nat.le_add_right _ _ | omega) only [Le_upd hb, Le_app hb, Le_rfl, free_T hb, free_upd]; done) | fail) only [go_sem, push_cast, and_pos, Le_updF, Le_upd hb, free_T hb]
    refine vq_conv pok (E := (Env.base _)) (PL := []) (by kernel_rfl) ?_
    simp (maxSteps := 2000000) (disch := first | assumption | (refine asm_intro ?_; assumption) | exact Nat.le_add_right _ _ | exact Nat.le_refl _ | omega | (simp (disch := first | exact Nat.le_add_right _ _ | omega) only [Le_upd hb, Le_app hb, Le_rfl, free_T hb, free_upd]; done) | fail) only [go_sem, push_cast, and_pos, Le_updF, Le_upd hb, free_T hb]
    exact (all_yes fun x hx => by
      obtain ⟨j, hj, rfl⟩ := List.getElem_of_mem hx
      have := hIi j (by omega) _ (List.getElem?_eq_getElem hj)
      simpa using this).symm
def V70 : Trans := fun args H Bd K => ∃ (s : GSignature) (e : GEquation), args = [.agg (enc (s)).toArray, .agg (enc (e)).toArray] ∧ ((sm s ∧ sm e ∧ rg e ∧ sigF s = 0) ∧ K (.int .i64 (eqnG s e)) H Bd)
@[go_sem ↓] theorem V70_eq (s_symbols : List GSymbol) (e_left : List Int) (e_right : List Int) (H : AH) (Bd : Nat) (K : Value → AH → Nat → Prop) : V70 [.agg #[lst (s_symbols)], .agg #[lst (e_left), lst (e_right)]] H Bd K = ((sm (GSignature.mk s_symbols) ∧ sm (GEquation.mk e_left e_right) ∧ rg (GEquation.mk e_left e_right) ∧ sigF (GSignature.mk s_symbols) = 0) ∧ K (.int .i64 (eqnG (GSignature.mk s_symbols) (GEquation.mk e_left e_right))) H Bd) := by
  refine propext ⟨fun h => ?_, fun h => ⟨_, _, rfl, h⟩⟩
  obtain ⟨s', e', e, h⟩ := h
  obtain ⟨ssymbols'⟩ := s'
  obtain ⟨eleft', eright'⟩ := e'
  simp only [enc_GEquation, enc_GSignature, enc_int, enc_str, enc_list, enc_bool, enc_byte, List.cons.injEq, Value.agg.injEq, toArr_inj, Value.int.injEq, Value.bool.injEq, Value.string.injEq, Value.slice.injEq, Value.func.injEq, Value.pointer.injEq, Option.some.injEq, Addr.mk.injEq, lst_inj, true_and, and_true] at e
  obtain ⟨rfl, ⟨rfl, rfl⟩⟩ := e
  exact h
def W70 : Trans := fun args H Bd K => ∃ (ps pe : Value), args = [ps, pe] ∧ Yld (cellsAt H 1 ps) fun cs => Yld (cellsAt H 2 pe) fun ce => callW V70 [.agg cs.toArray, .agg ce.toArray] H Bd K
@[go_sem ↓] theorem W70_eq (ps pe : Value) (H : AH) (Bd : Nat) (K : Value → AH → Nat → Prop) : W70 [ps, pe] H Bd K = (Yld (cellsAt H 1 ps) fun cs => Yld (cellsAt H 2 pe) fun ce => callW V70 (idS [.agg cs.toArray, .agg ce.toArray]) H Bd K) := by
  refine propext ⟨fun h => ?_, fun h => ⟨_, _, rfl, h⟩⟩
  obtain ⟨ps', pe', e, h⟩ := h
  simp only [List.cons.injEq, and_true] at e
  obtain ⟨rfl, rfl⟩ := e
  exact h
set_option maxHeartbeats 2000000 in
theorem W70_ok : OK 70 W70 := by
  rintro args H Bd K ⟨ps, pe, rfl, cs, es, ce, ee, h⟩
  obtain ⟨s, e, e, hpre, hK⟩ := h
  simp only [List.cons.injEq, and_true] at e
  obtain ⟨Es, Ee⟩ := e
  obtain rfl := agg_inj Es
  obtain rfl := agg_inj Ee
  refine fn_pure pok (((Env.base _).add 73 _ W73_ok).add 101 _ W101_ok) [(7, [], [], (.k 7 (.grp false 31 37 6 [32, 33, 34, 35, 36, 37] 38 none (.k 6 .nil) .nil)))] _ hK Tryz.func70 rfl (rs := [.tmp 4]) rfl Tryz.ntmps70 (by simp) Tryz.call70 (by kernel_rfl) (fun ha hb => .int _ _) (fun hb ha => ?_)
  have Ps := cellsAt_out es (NB.vpok (ha ps (by simp)))
  simp only [enc_GSignature] at Ps
  have Pe := cellsAt_out ee (NB.vpok (ha pe (by simp)))
  simp only [enc_GEquation, enc_GSignature] at Pe
  obtain ⟨h1, h2, h3, h4⟩ := hpre
  have hss : sm s := h1
  simp only [sm_GEquation] at h2
  have h5 := h2.1
  have h6 := h2.2
  have h7 : rg e.left := h3.1
  have h8 : rg e.right := h3.2
  simp (maxSteps := 2000000) (disch := first | assumption | (refine asm_intro ?_; assumption) | exact Nat.le_add_right _ _ | exact Nat.le_refl _ | omega | (simp (disch := first | exact Nat.le_add_right _ _ | omega) only [Le_upd hb, Le_app hb, Le_rfl, free_T hb, free_upd]; done) | fail) only [go_sem, push_cast, and_pos, Le_updF, Le_upd hb, free_T hb, Ps.nil, Ps.fldL (m := 1) rfl, Ps.ldL (m := 1) rfl, Ps.ld0L (m := 1) rfl, Ps.cellsL (m := 1) rfl, Ps.cellsOL (m := 1) rfl, Pe.nil, Pe.fldL (m := 2) rfl, Pe.ldL (m := 2) rfl, Pe.ld0L (m := 2) rfl, Pe.cellsL (m := 2) rfl, Pe.cellsOL (m := 2) rfl, h1, h5, h6, h7, h8, h4]
  unfold eqnG
  refine ⟨fun a1 => ⟨fun a2 => ⟨fun a3 => ?_, fun a3 a4 => ?_⟩, fun a2 => ?_⟩, fun a1 => ?_⟩
  · rw [if_neg (by simp [a1]), if_neg (by simp [a2]), if_neg (fun h => a3.elim (fun k => k h.1) (fun k => k h.2))]
  · rw [if_neg (by simp [a1]), if_neg (by simp [a2]), if_pos ⟨a3, a4⟩]
  · rw [if_neg (by simp [a1]), if_pos a2]
  · rw [if_pos a1]
def V37 : Trans := fun args H Bd K => ∃ (s : GSignature) (l : List GEquation), args = [.agg (enc (s)).toArray, lst (l)] ∧ ((sm s ∧ sm l ∧ rg l ∧ sigF s = 0) ∧ K (.int .i64 (eqsG s l)) H Bd)
@[go_sem ↓] theorem V37_eq (s_symbols : List GSymbol) (l : List GEquation) (H : AH) (Bd : Nat) (K : Value → AH → Nat → Prop) : V37 [.agg #[lst (s_symbols)], lst (l)] H Bd K = ((sm (GSignature.mk s_symbols) ∧ sm l ∧ rg l ∧ sigF (GSignature.mk s_symbols) = 0) ∧ K (.int .i64 (eqsG (GSignature.mk s_symbols) l)) H Bd) := by
  refine propext ⟨fun h => ?_, fun h => ⟨_, _, rfl, h⟩⟩
  obtain ⟨s', l', e, h⟩ := h
  obtain ⟨ssymbols'⟩ := s'
  skip
  simp only [enc_GSignature, enc_int, enc_str, enc_list, enc_bool, enc_byte, List.cons.injEq, Value.agg.injEq, toArr_inj, Value.int.injEq, Value.bool.injEq, Value.string.injEq, Value.slice.injEq, Value.func.injEq, Value.pointer.injEq, Option.some.injEq, Addr.mk.injEq, lst_inj, true_and, and_true] at e
  obtain ⟨rfl, rfl⟩ := e
  exact h
def W37 : Trans := fun args H Bd K => ∃ (ps vl : Value), args = [ps, vl] ∧ Yld (cellsAt H 1 ps) fun cs => callW V37 [.agg cs.toArray, vl] H Bd K
@[go_sem ↓] theorem W37_eq (ps vl : Value) (H : AH) (Bd : Nat) (K : Value → AH → Nat → Prop) : W37 [ps, vl] H Bd K = (Yld (cellsAt H 1 ps) fun cs => callW V37 (idS [.agg cs.toArray, vl]) H Bd K) := by
  refine propext ⟨fun h => ?_, fun h => ⟨_, _, rfl, h⟩⟩
  obtain ⟨ps', vl', e, h⟩ := h
  simp only [List.cons.injEq, and_true] at e
  obtain ⟨rfl, rfl⟩ := e
  exact h
theorem W37_ok : OK 37 W37 := by
  rintro args H Bd K ⟨ps, vl, rfl, cs, es, h⟩
  obtain ⟨s, l, e, hpre, hK⟩ := h
  simp only [List.cons.injEq, and_true] at e
  obtain ⟨Es, rfl⟩ := e
  obtain rfl := agg_inj Es
  refine fn_pure pok ((Env.base _).add 70 _ W70_ok) [] _ hK Tryz.func37 rfl (rs := [.tmp 4]) rfl Tryz.ntmps37 (by simp) Tryz.call37 (by kernel_rfl) (fun ha hb => .int _ _) (fun hb ha => ?_)
  have Ps := cellsAt_out es (NB.vpok (ha ps (by simp)))
  simp only [enc_GSignature] at Ps
  obtain ⟨h1, h2, h3, h4⟩ := hpre
  have hlt2 := sm_len h2
  simp (maxSteps := 2000000) (disch := first | assumption | (refine asm_intro ?_; assumption) | exact Nat.le_add_right _ _ | exact Nat.le_refl _ | omega | (simp (disch := first | exact Nat.le_add_right _ _ | omega) only [Le_upd hb, Le_app hb, Le_rfl, free_T hb, free_upd]; done) | fail) only [go_sem, push_cast, and_pos, Le_updF, Le_upd hb, free_T hb, Ps.nil, Ps.fldL (m := 1) rfl, Ps.ldL (m := 1) rfl, Ps.ld0L (m := 1) rfl, Ps.cellsL (m := 1) rfl, Ps.cellsOL (m := 1) rfl]
  refine ⟨fun hq => ?_, fun hq => ?_⟩
  · unfold eqsG; rw [if_pos (by omega)]
  · have hv : eqsG s l = firstF (eqnG s) l := if_neg (by omega)
    rw [hv]
    refine tr_for (fun i => ∀ j, j < i → ∀ y, l[j]? = some y → eqnG s y = 0) (l.length) (fun i => [(0, ps), (1, lst l), (5, .int .i64 i)]) (fun j hj => absurd hj (Nat.not_lt_zero _)) (by simp only [go_sem, push_cast, and_pos, Le_updF]) ?_
    intro i Bi hIi hii hBi
    refine vq_conv pok (E := ((Env.base _).add 70 _ W70_ok)) (PL := []) (by kernel_rfl) ?_
    rcases Nat.lt_or_ge i (l.length) with hlti | hgei
    · have e1 : l[i]? = some l[i] := List.getElem?_eq_getElem hlti
      have h5 := sm_mem h2 (List.getElem_mem hlti)
      have h6 := h3 _ (List.getElem_mem hlti)
      simp (maxSteps := 2000000) (disch := first | assumption | (refine asm_intro ?_; assumption) | exact Nat.le_add_right _ _ | exact Nat.le_refl _ | omega | (simp (disch := first | exact Nat.le_add_right _ _ | omega) only [Le_upd hb, Le_app hb, Le_rfl, free_T hb, free_upd]; done) | fail) only [go_sem, push_cast, and_pos, Le_updF, Le_upd hb, free_T hb, Ps.nil, Ps.fldL (m := 1) rfl, Ps.ldL (m := 1) rfl, Ps.ld0L (m := 1) rfl, Ps.cellsL (m := 1) rfl, Ps.cellsOL (m := 1) rfl, e1, h1, h5, h6, h4]
      refine ⟨fun h j hj y hy => ?_, fun h => (firstF_hit e1 hIi h).symm⟩
      · by_cases e : j = i
        · subst e; rw [e1] at hy; cases hy; exact h
        · exact hIi j (by omega) y hy
    · simp (maxSteps := 2000000) (disch := first | assumption | (refine asm_intro ?_; assumption) | exact Nat.le_add_right _ _ | exact Nat.le_refl _ | omega | (simp (disch := first | exact Nat.le_add_right _ _ | omega) only [Le_upd hb, Le_app hb, Le_rfl, free_T hb, free_upd]; done) | fail) only [go_sem, push_cast, and_pos, Le_updF, Le_upd hb, free_T hb, Ps.nil, Ps.fldL (m := 1) rfl, Ps.ldL (m := 1) rfl, Ps.ld0L (m := 1) rfl, Ps.cellsL (m := 1) rfl, Ps.cellsOL (m := 1) rfl]
      refine vq_conv pok (E := ((Env.base _).add 70 _ W70_ok)) (PL := []) (by kernel_rfl) ?_
      simp (maxSteps := 2000000) (disch := first | assumption | (refine asm_intro ?_; assumption) | exact Nat.le_add_right _ _ | exact Nat.le_refl _ | omega | (simp (disch := first | exact Nat.le_add_right _ _ | omega) only [Le_upd hb, Le_app hb, Le_rfl, free_T hb, free_upd]; done) | fail) only [go_sem, push_cast, and_pos, Le_updF, Le_upd hb, free_T hb, Ps.nil, Ps.fldL (m := 1) rfl, Ps.ldL (m := 1) rfl, Ps.ld0L (m := 1) rfl, Ps.cellsL (m := 1) rfl, Ps.cellsOL (m := 1) rfl]
      exact (firstF_all fun x hx => by
        obtain ⟨j, hj, rfl⟩ := List.getElem_of_mem hx
        exact hIi j (by omega) _ (List.getElem?_eq_getElem hj)).symm
def W71 : Trans := fun args H Bd K => ∃ (t : List Int) (n : Int), args = [lst (t), .int .i64 (n)] ∧ ((sm t) ∧ K (.int .i64 ((t.count n : Int))) H Bd)
@[go_sem ↓] theorem W71_eq (t : List Int) (n : Int) (H : AH) (Bd : Nat) (K : Value → AH → Nat → Prop) : W71 [lst (t), .int .i64 (n)] H Bd K = ((sm t) ∧ K (.int .i64 ((t.count n : Int))) H Bd) := by
  refine propext ⟨fun h => ?_, fun h => ⟨_, _, rfl, h⟩⟩
  obtain ⟨t', n', e, h⟩ := h
  skip
  skip
  simp only [List.cons.injEq, Value.agg.injEq, toArr_inj, Value.int.injEq, Value.bool.injEq, Value.string.injEq, Value.slice.injEq, Value.func.injEq, Value.pointer.injEq, Option.some.injEq, Addr.mk.injEq, lst_inj, true_and, and_true] at e
  obtain ⟨rfl, rfl⟩ := e
  exact h
theorem W71_ok : OK 71 W71 := by
  rintro args H Bd K ⟨t, n, rfl, hpre, hK⟩
  refine fn_pure pok (Env.base _) [] _ hK Tryz.func71 rfl (rs := [.tmp 4]) rfl Tryz.ntmps71 (by simp) Tryz.call71 (by kernel_rfl) (fun ha hb => .int _ _) (fun hb ha => ?_)
  have hlt2 := sm_len hpre
  simp (maxSteps := 2000000) (disch := first | assumption | (refine asm_intro ?_; assumption) | exact Nat.le_add_right _ _ | exact Nat.le_refl _ | omega | (simp (disch := first | exact Nat.le_add_right _ _ | omega) only [Le_upd hb, Le_app hb, Le_rfl, free_T hb, free_upd]; done) | fail) only [go_sem, push_cast, and_pos, Le_updF, Le_upd hb, free_T hb]
  refine tr_for (fun i => True) (t.length) (fun i => [(0, lst t), (1, .int .i64 n), (5, .int .i64 ((t.take i).count n : Nat)), (6, .int .i64 i)]) (trivial) (by simp only [go_sem, push_cast, and_pos, Le_updF, List.take_zero, List.count_nil]) ?_
  intro i Bi hIi hii hBi
  refine vq_conv pok (E := (Env.base _)) (PL := []) (by kernel_rfl) ?_
  rcases Nat.lt_or_ge i (t.length) with hlti | hgei
  · have e1 : t[i]? = some t[i] := List.getElem?_eq_getElem hlti
    have hst : (t.take (i + 1)).count n = (t.take i).count n + if t[i] = n then 1 else 0 := by
      rw [List.take_succ_eq_append_getElem hlti, List.count_append, List.count_singleton]
      simp
    have hle : (t.take i).count n ≤ i := by have := List.count_le_length (a := n) (l := t.take i); rw [List.length_take] at this; omega
    simp (maxSteps := 2000000) (disch := first | assumption | (refine asm_intro ?_; assumption) | exact Nat.le_add_right _ _ | exact Nat.le_refl _ | omega | (simp (disch := first | exact Nat.le_add_right _ _ | omega) only [Le_upd hb, Le_app hb, Le_rfl, free_T hb, free_upd]; done) | fail) only [go_sem, push_cast, and_pos, Le_updF, Le_upd hb, free_T hb, e1]
    refine ⟨fun h => ?_, fun h => ?_⟩
    · rw [if_pos h] at hst; rw [hst]; omega
    · rw [if_neg h] at hst; rw [hst]; rfl
  · simp (maxSteps := 2000000) (disch := first | assumption | (refine asm_intro ?_; assumption) | exact Nat.le_add_right _ _ | exact Nat.le_refl _ | omega | (simp (disch := first | exact Nat.le_add_right _ _ | omega) only [Le_upd hb, Le_app hb, Le_rfl, free_T hb, free_upd]; done) | fail) only [go_sem, push_cast, and_pos, Le_updF, Le_upd hb, free_T hb]
    refine vq_conv pok (E := (Env.base _)) (PL := []) (by kernel_rfl) ?_
    simp (maxSteps := 2000000) (disch := first | assumption | (refine asm_intro ?_; assumption) | exact Nat.le_add_right _ _ | exact Nat.le_refl _ | omega | (simp (disch := first | exact Nat.le_add_right _ _ | omega) only [Le_upd hb, Le_app hb, Le_rfl, free_T hb, free_upd]; done) | fail) only [go_sem, push_cast, and_pos, Le_updF, Le_upd hb, free_T hb]
    rw [List.take_of_length_le hgei]
def V38 : Trans := fun args H Bd K => ∃ (s : GSignature) (l : List GEquation), args = [.agg (enc (s)).toArray, lst (l)] ∧ ((sm s ∧ sm l ∧ rg l ∧ sigF s = 0) ∧ K (.int .i64 (rulesG s l)) H Bd)
@[go_sem ↓] theorem V38_eq (s_symbols : List GSymbol) (l : List GEquation) (H : AH) (Bd : Nat) (K : Value → AH → Nat → Prop) : V38 [.agg #[lst (s_symbols)], lst (l)] H Bd K = ((sm (GSignature.mk s_symbols) ∧ sm l ∧ rg l ∧ sigF (GSignature.mk s_symbols) = 0) ∧ K (.int .i64 (rulesG (GSignature.mk s_symbols) l)) H Bd) := by
  refine propext ⟨fun h => ?_, fun h => ⟨_, _, rfl, h⟩⟩
  obtain ⟨s', l', e, h⟩ := h
  obtain ⟨ssymbols'⟩ := s'
  skip
  simp only [enc_GSignature, enc_int, enc_str, enc_list, enc_bool, enc_byte, List.cons.injEq, Value.agg.injEq, toArr_inj, Value.int.injEq, Value.bool.injEq, Value.string.injEq, Value.slice.injEq, Value.func.injEq, Value.pointer.injEq, Option.some.injEq, Addr.mk.injEq, lst_inj, true_and, and_true] at e
  obtain ⟨rfl, rfl⟩ := e
  exact h
def W38 : Trans := fun args H Bd K => ∃ (ps vl : Value), args = [ps, vl] ∧ Yld (cellsAt H 1 ps) fun cs => callW V38 [.agg cs.toArray, vl] H Bd K
@[go_sem ↓] theorem W38_eq (ps vl : Value) (H : AH) (Bd : Nat) (K : Value → AH → Nat → Prop) : W38 [ps, vl] H Bd K = (Yld (cellsAt H 1 ps) fun cs => callW V38 (idS [.agg cs.toArray, vl]) H Bd K) := by
  refine propext ⟨fun h => ?_, fun h => ⟨_, _, rfl, h⟩⟩
  obtain ⟨ps', vl', e, h⟩ := h
  simp only [List.cons.injEq, and_true] at e
  obtain ⟨rfl, rfl⟩ := e
  exact h
set_option maxHeartbeats 2000000 in
theorem W38_ok : OK 38 W38 := by
  rintro args H Bd K ⟨ps, vl, rfl, cs, es, h⟩
  obtain ⟨s, l, e, hpre, hK⟩ := h
  simp only [List.cons.injEq, and_true] at e
  obtain ⟨Es, rfl⟩ := e
  obtain rfl := agg_inj Es
  refine fn_pure pok (((Env.base _).add 37 _ W37_ok).add 71 _ W71_ok) [(13, [], [], (.k 3 (.grp true 49 57 8 [50, 51, 52, 53, 54, 55, 56, 57] 58 none (.k 8 .nil) .nil)))] _ hK Tryz.func38 rfl (rs := [.tmp 4]) rfl Tryz.ntmps38 (by simp) Tryz.call38 (by kernel_rfl) (fun ha hb => .int _ _) (fun hb ha => ?_)
  have Ps := cellsAt_out es (NB.vpok (ha ps (by simp)))
  simp only [enc_GSignature] at Ps
  obtain ⟨h1, h2, h3, h4⟩ := hpre
  have hlt2 := sm_len h2
  simp (maxSteps := 2000000) (disch := first | assumption | (refine asm_intro ?_; assumption) | exact Nat.le_add_right _ _ | exact Nat.le_refl _ | omega | (simp (disch := first | exact Nat.le_add_right _ _ | omega) only [Le_upd hb, Le_app hb, Le_rfl, free_T hb, free_upd]; done) | fail) only [go_sem, push_cast, and_pos, Le_updF, Le_upd hb, free_T hb, Ps.nil, Ps.fldL (m := 1) rfl, Ps.ldL (m := 1) rfl, Ps.ld0L (m := 1) rfl, Ps.cellsL (m := 1) rfl, Ps.cellsOL (m := 1) rfl, h1, h2, h3, h4]
  refine ⟨fun hq => ?_, fun hq => ?_⟩
  · have hv : rulesG s l = if l.all ruleOK = true then 0 else 1 := by unfold rulesG; rw [if_neg (by simp [hq])]
    have hall := (eqsG_zero hq).2
    rw [hv]
    refine tr_for (fun i => ∀ j, j < i → ∀ y, l[j]? = some y → ruleOK y = true) (l.length) (fun i => [(0, ps), (1, lst l), (6, .int .i64 i)]) (fun j hj => absurd hj (Nat.not_lt_zero _)) (by simp only [go_sem, push_cast, and_pos, Le_updF]) ?_
    intro i Bi hIi hii hBi
    refine vq_conv pok (E := (((Env.base _).add 37 _ W37_ok).add 71 _ W71_ok)) (PL := [(13, [], [], (.k 3 (.grp true 49 57 8 [50, 51, 52, 53, 54, 55, 56, 57] 58 none (.k 8 .nil) .nil)))]) (by kernel_rfl) ?_
    rcases Nat.lt_or_ge i (l.length) with hlti | hgei
    · have e1 : l[i]? = some l[i] := List.getElem?_eq_getElem hlti
      have h5 := sm_mem h2 (List.getElem_mem hlti)
      simp only [sm_GEquation] at h5
      have h51 := h5.1
      have hlr := sm_len h5.2
      have hok := eqnG_zero (hall _ (List.getElem_mem hlti))
      have hl0 := hok.1.len.1
      have e2 : l[i].left[0]? = some l[i].left[0] := List.getElem?_eq_getElem (by omega)
      have e3 : l[i].left.headD 0 = l[i].left[0] := headD_get hl0
      simp (maxSteps := 2000000) (disch := first | assumption | (refine asm_intro ?_; assumption) | exact Nat.le_add_right _ _ | exact Nat.le_refl _ | omega | (simp (disch := first | exact Nat.le_add_right _ _ | omega) only [Le_upd hb, Le_app hb, Le_rfl, free_T hb, free_upd]; done) | fail) only [go_sem, push_cast, and_pos, Le_updF, Le_upd hb, free_T hb, Ps.nil, Ps.fldL (m := 1) rfl, Ps.ldL (m := 1) rfl, Ps.ld0L (m := 1) rfl, Ps.cellsL (m := 1) rfl, Ps.cellsOL (m := 1) rfl, e1, e2]
      refine ⟨fun h => ?_, fun h => ?_⟩
      · rw [if_neg]
        intro hc
        have := List.all_eq_true.1 hc _ (List.getElem_mem hlti)
        unfold ruleOK at this
        rw [e3] at this
        simp only [Bool.and_eq_true, decide_eq_true_eq] at this
        omega
      · refine tr_for (fun j => ∀ k, k < j → ∀ y, l[i].right[k]? = some y → varOK l[i] y = true) (l[i].right.length) (fun j => [(0, ps), (1, lst l), (6, .int .i64 i), (7, .int .i64 j)]) (fun k hk => absurd hk (Nat.not_lt_zero _)) (by simp only [go_sem, push_cast, and_pos, Le_updF]) ?_
        intro j Bj hIj hij hBj
        refine vq_conv pok (E := (((Env.base _).add 37 _ W37_ok).add 71 _ W71_ok)) (PL := [(13, [], [], (.k 3 (.grp true 49 57 8 [50, 51, 52, 53, 54, 55, 56, 57] 58 none (.k 8 .nil) .nil)))]) (by kernel_rfl) ?_
        rcases Nat.lt_or_ge j (l[i].right.length) with hltj | hgej
        · have e4 : l[i].right[j]? = some l[i].right[j] := List.getElem?_eq_getElem hltj
          simp (maxSteps := 2000000) (disch := first | assumption | (refine asm_intro ?_; assumption) | exact Nat.le_add_right _ _ | exact Nat.le_refl _ | omega | (simp (disch := first | exact Nat.le_add_right _ _ | omega) only [Le_upd hb, Le_app hb, Le_rfl, free_T hb, free_upd]; done) | fail) only [go_sem, push_cast, and_pos, Le_updF, Le_upd hb, free_T hb, Ps.nil, Ps.fldL (m := 1) rfl, Ps.ldL (m := 1) rfl, Ps.ld0L (m := 1) rfl, Ps.cellsL (m := 1) rfl, Ps.cellsOL (m := 1) rfl, e1, e4, h51]
          refine ⟨fun a1 a2 => ?_, fun a1 k hk y hy => ?_⟩
          · rw [if_neg]
            intro hc
            have h9 := List.all_eq_true.1 hc _ (List.getElem_mem hlti)
            unfold ruleOK at h9
            simp only [Bool.and_eq_true] at h9
            have h10 := List.all_eq_true.1 h9.2 _ (List.getElem_mem hltj)
            unfold varOK at h10
            simp only [decide_eq_true_eq] at h10
            omega
          · by_cases e : k = j
            · subst e; rw [e4] at hy; cases hy
              unfold varOK
              rw [decide_eq_true_eq]
              omega
            · exact hIj k (by omega) y hy
        · simp (maxSteps := 2000000) (disch := first | assumption | (refine asm_intro ?_; assumption) | exact Nat.le_add_right _ _ | exact Nat.le_refl _ | omega | (simp (disch := first | exact Nat.le_add_right _ _ | omega) only [Le_upd hb, Le_app hb, Le_rfl, free_T hb, free_upd]; done) | fail) only [go_sem, push_cast, and_pos, Le_updF, Le_upd hb, free_T hb, Ps.nil, Ps.fldL (m := 1) rfl, Ps.ldL (m := 1) rfl, Ps.ld0L (m := 1) rfl, Ps.cellsL (m := 1) rfl, Ps.cellsOL (m := 1) rfl, e1]
          intro k hk y hy
          by_cases e : k = i
          · subst e; rw [e1] at hy; cases hy
            unfold ruleOK
            rw [e3, Bool.and_eq_true, decide_eq_true_eq]
            refine ⟨by omega, all_yes fun x hx => ?_⟩
            obtain ⟨m, hm, rfl⟩ := List.getElem_of_mem hx
            exact hIj m (by omega) _ (List.getElem?_eq_getElem hm)
          · exact hIi k (by omega) y hy
    · simp (maxSteps := 2000000) (disch := first | assumption | (refine asm_intro ?_; assumption) | exact Nat.le_add_right _ _ | exact Nat.le_refl _ | omega | (simp (disch := first | exact Nat.le_add_right _ _ | omega) only [Le_upd hb, Le_app hb, Le_rfl, free_T hb, free_upd]; done) | fail) only [go_sem, push_cast, and_pos, Le_updF, Le_upd hb, free_T hb, Ps.nil, Ps.fldL (m := 1) rfl, Ps.ldL (m := 1) rfl, Ps.ld0L (m := 1) rfl, Ps.cellsL (m := 1) rfl, Ps.cellsOL (m := 1) rfl]
      refine vq_conv pok (E := (((Env.base _).add 37 _ W37_ok).add 71 _ W71_ok)) (PL := [(13, [], [], (.k 3 (.grp true 49 57 8 [50, 51, 52, 53, 54, 55, 56, 57] 58 none (.k 8 .nil) .nil)))]) (by kernel_rfl) ?_
      simp (maxSteps := 2000000) (disch := first | assumption | (refine asm_intro ?_; assumption) | exact Nat.le_add_right _ _ | exact Nat.le_refl _ | omega | (simp (disch := first | exact Nat.le_add_right _ _ | omega) only [Le_upd hb, Le_app hb, Le_rfl, free_T hb, free_upd]; done) | fail) only [go_sem, push_cast, and_pos, Le_updF, Le_upd hb, free_T hb, Ps.nil, Ps.fldL (m := 1) rfl, Ps.ldL (m := 1) rfl, Ps.ld0L (m := 1) rfl, Ps.cellsL (m := 1) rfl, Ps.cellsOL (m := 1) rfl]
      rw [if_pos (all_yes fun x hx => by
        obtain ⟨j, hj, rfl⟩ := List.getElem_of_mem hx
        exact hIi j (by omega) _ (List.getElem?_eq_getElem hj))]
  · unfold rulesG; rw [if_pos hq]
def V128 : Trans := fun args H Bd K => ∃ (s : GSignature) (t : List Int) (a : Int), args = [.agg (enc (s)).toArray, lst (t), .int .i64 (a)] ∧ ((sm s ∧ sm t ∧ sigF s = 0 ∧ nodes s t ∧ 0 ≤ a ∧ a < t.length ∧ 0 ≤ ep s t 1 a.toNat ∧ 0 ≤ t.getD a.toNat 0) ∧ K (lst (argsP s t a.toNat (arN s (t.getD a.toNat 0)))) H Bd)
@[go_sem ↓] theorem V128_eq (s_symbols : List GSymbol) (t : List Int) (a : Int) (H : AH) (Bd : Nat) (K : Value → AH → Nat → Prop) : V128 [.agg #[lst (s_symbols)], lst (t), .int .i64 (a)] H Bd K = ((sm (GSignature.mk s_symbols) ∧ sm t ∧ sigF (GSignature.mk s_symbols) = 0 ∧ nodes (GSignature.mk s_symbols) t ∧ 0 ≤ a ∧ a < t.length ∧ 0 ≤ ep (GSignature.mk s_symbols) t 1 a.toNat ∧ 0 ≤ t.getD a.toNat 0) ∧ K (lst (argsP (GSignature.mk s_symbols) t a.toNat (arN (GSignature.mk s_symbols) (t.getD a.toNat 0)))) H Bd) := by
  refine propext ⟨fun h => ?_, fun h => ⟨_, _, _, rfl, h⟩⟩
  obtain ⟨s', t', a', e, h⟩ := h
  obtain ⟨ssymbols'⟩ := s'
  skip
  skip
  simp only [enc_GSignature, enc_int, enc_str, enc_list, enc_bool, enc_byte, List.cons.injEq, Value.agg.injEq, toArr_inj, Value.int.injEq, Value.bool.injEq, Value.string.injEq, Value.slice.injEq, Value.func.injEq, Value.pointer.injEq, Option.some.injEq, Addr.mk.injEq, lst_inj, true_and, and_true] at e
  obtain ⟨rfl, rfl, rfl⟩ := e
  exact h
def W128 : Trans := fun args H Bd K => ∃ (ps vt va : Value), args = [ps, vt, va] ∧ Yld (cellsAt H 1 ps) fun cs => callW V128 [.agg cs.toArray, vt, va] H Bd K
@[go_sem ↓] theorem W128_eq (ps vt va : Value) (H : AH) (Bd : Nat) (K : Value → AH → Nat → Prop) : W128 [ps, vt, va] H Bd K = (Yld (cellsAt H 1 ps) fun cs => callW V128 (idS [.agg cs.toArray, vt, va]) H Bd K) := by
  refine propext ⟨fun h => ?_, fun h => ⟨_, _, _, rfl, h⟩⟩
  obtain ⟨ps', vt', va', e, h⟩ := h
  simp only [List.cons.injEq, and_true] at e
  obtain ⟨rfl, rfl, rfl⟩ := e
  exact h
set_option maxHeartbeats 2000000 in
theorem W128_ok : OK 128 W128 := by
  rintro args H Bd K ⟨ps, vt, va, rfl, cs, es, h⟩
  obtain ⟨s, t, a, e, hpre, hK⟩ := h
  simp only [List.cons.injEq, and_true] at e
  obtain ⟨Es, rfl, rfl⟩ := e
  obtain rfl := agg_inj Es
  refine fn_pure pok ((Env.base _).add 104 _ W104_ok) [(4, [0,1,2,3,4,5,6,7,8,9,10,11,12], [⟨0, [], []⟩, ⟨1, [], []⟩, ⟨2, [], []⟩, ⟨3, [], []⟩, ⟨4, [], []⟩, ⟨5, [], []⟩, ⟨6, [], []⟩, ⟨7, [], []⟩, ⟨8, [], []⟩, ⟨9, [], []⟩, ⟨10, [], []⟩, ⟨11, [], []⟩, ⟨12, [], []⟩], .nil)] _ hK Tryz.func128 rfl (rs := [.tmp 6]) rfl Tryz.ntmps128 (by simp) Tryz.call128 (by kernel_rfl) (fun ha hb => lst_nb _ _) (fun hb ha => ?_)
  have Ps := cellsAt_out es (NB.vpok (ha ps (by simp)))
  simp only [enc_GSignature] at Ps
  obtain ⟨h1, h2, h3, h4, h5, h6, h8, h9⟩ := hpre
  have hss : sm s := h1
  have hlt2 := sm_len h2
  have hs := sig_ok h3
  obtain ⟨a, rfl⟩ := Int.eq_ofNat_of_zero_le h5
  simp only [Int.toNat_natCast] at h8 h9
  have hlt : a < t.length := by omega
  have e1 : t[a]? = some t[a] := List.getElem?_eq_getElem hlt
  have e3 : t.getD a 0 = t[a] := by rw [List.getD_eq_getElem?_getD, e1]; rfl
  rw [e3] at h9
  have hn := h4 _ (List.getElem_mem hlt)
  have e4 : t[a].toNat < s.symbols.length := by omega
  have e2 : s.symbols[t[a].toNat]? = some s.symbols[t[a].toNat] := List.getElem?_eq_getElem e4
  have ha := hs.nm _ (List.getElem_mem e4)
  have har := arN_sym (s := s) h9 e2
  rw [ep_node 0 e1, Nat.zero_add, har] at h8
  have e5 : argsP s t a (arN s (t.getD a 0)) = argsP s t a s.symbols[t[a].toNat].arity.toNat := by rw [e3, har]
  simp (maxSteps := 2000000) (disch := first | assumption | (refine asm_intro ?_; assumption) | exact Nat.le_add_right _ _ | exact Nat.le_refl _ | omega | (simp (disch := first | exact Nat.le_add_right _ _ | omega) only [Le_upd hb, Le_app hb, Le_rfl, free_T hb, free_upd]; done) | fail) only [go_sem, push_cast, and_pos, Le_updF, Le_upd hb, free_T hb, Ps.nil, Ps.fldL (m := 1) rfl, Ps.ldL (m := 1) rfl, Ps.ld0L (m := 1) rfl, Ps.cellsL (m := 1) rfl, Ps.cellsOL (m := 1) rfl, e5]
  refine tr_acc (α := Int) (H0 := H) (B0 := Bd) (n0 := Bd) (s.symbols[t[a].toNat].arity.toNat) (fun i => argsP s t a i) (fun i out => [(0, ps), (1, lst t), (2, .int .i64 a), (7, out), (8, .int .i64 (ep s t i (a + 1))), (9, .int .i64 i)]) (Nat.le_refl 1) ⟨by omega, by omega⟩ (by simp only [go_sem, push_cast, and_pos, Le_updF, argsP_zero, ep_zero (show a + 1 ≤ t.length by omega)]) (by simp (disch := first | assumption | omega) only [go_sem, push_cast, and_pos, Le_updF, flat_nil, argsP_zero, ep_zero (show a + 1 ≤ t.length by omega)]) ?_
  intro i ni ci Bi hii hci hni hmi hBi hbi
  refine vq_conv pok (E := ((Env.base _).add 104 _ W104_ok)) (PL := [(4, [0,1,2,3,4,5,6,7,8,9,10,11,12], [⟨0, [], []⟩, ⟨1, [], []⟩, ⟨2, [], []⟩, ⟨3, [], []⟩, ⟨4, [], []⟩, ⟨5, [], []⟩, ⟨6, [], []⟩, ⟨7, [], []⟩, ⟨8, [], []⟩, ⟨9, [], []⟩, ⟨10, [], []⟩, ⟨11, [], []⟩, ⟨12, [], []⟩], .nil)]) (by kernel_rfl) ?_
  have hzi : (ci = 0) = False := eq_false (by omega)
  rcases Nat.lt_or_ge i (s.symbols[t[a].toNat].arity.toNat) with hlti | hgei
  · obtain ⟨m, q1, q2, q3, q4, q5⟩ := arg_at hlt h8 hlti
    have hcv : ((a : Int) + 1 + m).toNat = a + 1 + m := by omega
    have hst := argsP_succ s t a i
    rw [q3] at hst
    have hl3 := argsP_len s t a i
    have hc : (i : Int) < s.symbols[t[a].toNat].arity := by omega
    simp (maxSteps := 2000000) (disch := first | assumption | (refine asm_intro ?_; assumption) | exact Nat.le_add_right _ _ | exact Nat.le_refl _ | omega | (simp (disch := first | exact Nat.le_add_right _ _ | omega) only [Le_upd hb, Le_app hb, Le_rfl, free_T hb, free_upd]; done) | fail) only [go_sem, push_cast, and_pos, Le_updF, Le_upd hb, free_T hb, Ps.nil, Ps.fldL (m := 1) rfl, Ps.ldL (m := 1) rfl, Ps.ld0L (m := 1) rfl, Ps.cellsL (m := 1) rfl, Ps.cellsOL (m := 1) rfl, e1, e2, h9, hc, q3, q4, hcv, hss, h2, h3, h4, hzi, hst, flat_append, flat_one]
    exact acc_end (by omega) (by omega) (by simp) rfl (by simp (disch := first | assumption | omega | (simp (disch := omega) only [free_upd, free_T hb]; done)) only [Le_upd2, Le_updF, Le_rfl, free_upd, free_T hb])
  · have hc : ¬ (i : Int) < s.symbols[t[a].toNat].arity := by omega
    simp (maxSteps := 2000000) (disch := first | assumption | (refine asm_intro ?_; assumption) | exact Nat.le_add_right _ _ | exact Nat.le_refl _ | omega | (simp (disch := first | exact Nat.le_add_right _ _ | omega) only [Le_upd hb, Le_app hb, Le_rfl, free_T hb, free_upd]; done) | fail) only [go_sem, push_cast, and_pos, Le_updF, Le_upd hb, free_T hb, Ps.nil, Ps.fldL (m := 1) rfl, Ps.ldL (m := 1) rfl, Ps.ld0L (m := 1) rfl, Ps.cellsL (m := 1) rfl, Ps.cellsOL (m := 1) rfl, e1, e2, h9, hc]
    refine Tr.fin2 7 (by simp (disch := first | assumption | omega) only [free_upd, free_T hb]) (by simp only [go_sem, push_cast, and_pos, Le_updF]; rfl) rfl ?_
    refine vq_conv pok (E := ((Env.base _).add 104 _ W104_ok)) (PL := [(4, [0,1,2,3,4,5,6,7,8,9,10,11,12], [⟨0, [], []⟩, ⟨1, [], []⟩, ⟨2, [], []⟩, ⟨3, [], []⟩, ⟨4, [], []⟩, ⟨5, [], []⟩, ⟨6, [], []⟩, ⟨7, [], []⟩, ⟨8, [], []⟩, ⟨9, [], []⟩, ⟨10, [], []⟩, ⟨11, [], []⟩, ⟨12, [], []⟩], .nil)]) (by kernel_rfl) ?_
    rw [← show i = s.symbols[t[a].toNat].arity.toNat by omega]
    simp (maxSteps := 2000000) (disch := first | assumption | (refine asm_intro ?_; assumption) | exact Nat.le_add_right _ _ | exact Nat.le_refl _ | omega | (simp (disch := first | exact Nat.le_add_right _ _ | omega) only [Le_upd hb, Le_app hb, Le_rfl, free_T hb, free_upd]; done) | fail) only [go_sem, push_cast, and_pos, Le_updF, Le_upd hb, free_T hb, Ps.nil, Ps.fldL (m := 1) rfl, Ps.ldL (m := 1) rfl, Ps.ld0L (m := 1) rfl, Ps.cellsL (m := 1) rfl, Ps.cellsOL (m := 1) rfl]
def W139 : Trans := fun args H Bd K => ∃ (xs : List Int) (ys : List Int), args = [lst (xs), lst (ys)] ∧ ((sm xs) ∧ K (.bool (decide (xs = ys))) H Bd)
@[go_sem ↓] theorem W139_eq (xs : List Int) (ys : List Int) (H : AH) (Bd : Nat) (K : Value → AH → Nat → Prop) : W139 [lst (xs), lst (ys)] H Bd K = ((sm xs) ∧ K (.bool (decide (xs = ys))) H Bd) := by
  refine propext ⟨fun h => ?_, fun h => ⟨_, _, rfl, h⟩⟩
  obtain ⟨xs', ys', e, h⟩ := h
  skip
  skip
  simp only [List.cons.injEq, Value.agg.injEq, toArr_inj, Value.int.injEq, Value.bool.injEq, Value.string.injEq, Value.slice.injEq, Value.func.injEq, Value.pointer.injEq, Option.some.injEq, Addr.mk.injEq, lst_inj, true_and, and_true] at e
  obtain ⟨rfl, rfl⟩ := e
  exact h
theorem W139_ok : OK 139 W139 := by
  rintro args H Bd K ⟨xs, ys, rfl, hpre, hK⟩
  refine fn_pure pok (Env.base _) [(6, [0,1,2,3,4,5,6,7,8], [⟨0, [], []⟩, ⟨1, [], []⟩, ⟨2, [], []⟩, ⟨3, [], []⟩, ⟨4, [], []⟩, ⟨5, [], []⟩, ⟨6, [], []⟩, ⟨7, [], []⟩, ⟨8, [], []⟩], .nil)] _ hK Tryz.func139 rfl (rs := [.tmp 4]) rfl Tryz.ntmps139 (by simp) Tryz.call139 (by kernel_rfl) (fun ha hb => .bool _) (fun hb ha => ?_)
  have hlen := sm_len hpre
  simp (maxSteps := 2000000) (disch := first | assumption | (refine asm_intro ?_; assumption) | exact Nat.le_add_right _ _ | exact Nat.le_refl _ | omega | (simp (disch := first | exact Nat.le_add_right _ _ | omega) only [Le_upd hb, Le_app hb, Le_rfl, free_T hb, free_upd]; done) | fail) only [go_sem, push_cast, and_pos, Le_updF, Le_upd hb, free_T hb]
  refine Cnp.of (fun hl => ?_) (fun hl => cmp_len (by omega))
  have hl' : xs.length = ys.length := by omega
  refine tr_for (fun i => ∀ j, j < i → xs[j]? = ys[j]?) xs.length (fun i => [(0, lst xs), (1, lst ys), (5, .int .i64 i)]) (fun j h => by omega) (by simp only [go_sem, push_cast, and_pos, Le_updF]) ?_
  intro i B0 hI hi hB
  refine vq_conv pok (E := (Env.base _)) (PL := [(6, [0,1,2,3,4,5,6,7,8], [⟨0, [], []⟩, ⟨1, [], []⟩, ⟨2, [], []⟩, ⟨3, [], []⟩, ⟨4, [], []⟩, ⟨5, [], []⟩, ⟨6, [], []⟩, ⟨7, [], []⟩, ⟨8, [], []⟩], .nil)]) (by kernel_rfl) ?_
  rcases Nat.lt_or_ge i xs.length with hlt | hge
  · have e1 : xs[i]? = some xs[i] := List.getElem?_eq_getElem hlt
    have e2 : ys[i]? = some (ys[i]'(by omega)) := List.getElem?_eq_getElem _
    have hx := sm_mem hpre (List.getElem_mem hlt)
    simp (maxSteps := 2000000) (disch := first | assumption | (refine asm_intro ?_; assumption) | exact Nat.le_add_right _ _ | exact Nat.le_refl _ | omega | (simp (disch := first | exact Nat.le_add_right _ _ | omega) only [Le_upd hb, Le_app hb, Le_rfl, free_T hb, free_upd]; done) | fail) only [go_sem, push_cast, and_pos, Le_updF, Le_upd hb, free_T hb, e1, e2, hx]
    exact cmp_step hl' hI hlt (by omega) rfl fun h => h
  · simp (maxSteps := 2000000) (disch := first | assumption | (refine asm_intro ?_; assumption) | exact Nat.le_add_right _ _ | exact Nat.le_refl _ | omega | (simp (disch := first | exact Nat.le_add_right _ _ | omega) only [Le_upd hb, Le_app hb, Le_rfl, free_T hb, free_upd]; done) | fail) only [go_sem, push_cast, and_pos, Le_updF, Le_upd hb, free_T hb]
    refine vq_conv pok (E := (Env.base _)) (PL := [(6, [0,1,2,3,4,5,6,7,8], [⟨0, [], []⟩, ⟨1, [], []⟩, ⟨2, [], []⟩, ⟨3, [], []⟩, ⟨4, [], []⟩, ⟨5, [], []⟩, ⟨6, [], []⟩, ⟨7, [], []⟩, ⟨8, [], []⟩], .nil)]) (by kernel_rfl) ?_
    simp (maxSteps := 2000000) (disch := first | assumption | (refine asm_intro ?_; assumption) | exact Nat.le_add_right _ _ | exact Nat.le_refl _ | omega | (simp (disch := first | exact Nat.le_add_right _ _ | omega) only [Le_upd hb, Le_app hb, Le_rfl, free_T hb, free_upd]; done) | fail) only [go_sem, push_cast, and_pos, Le_updF, Le_upd hb, free_T hb]
    exact cmp_end hl' hI hge
def V129 : Trans := fun args H Bd K => ∃ (s : GSignature) (t : List Int) (a : Int) (u : List Int) (b : Int), args = [.agg (enc (s)).toArray, lst (t), .int .i64 (a), lst (u), .int .i64 (b)] ∧ ((sm s ∧ sm t ∧ sm u ∧ sigF s = 0 ∧ nodes s t ∧ nodes s u ∧ 0 ≤ a ∧ a ≤ t.length ∧ 0 ≤ b ∧ b ≤ u.length ∧ 0 ≤ ep s t 1 a.toNat ∧ 0 ≤ ep s u 1 b.toNat) ∧ K (.bool (decide (subT s t a.toNat = subT s u b.toNat))) H Bd)
@[go_sem ↓] theorem V129_eq (s_symbols : List GSymbol) (t : List Int) (a : Int) (u : List Int) (b : Int) (H : AH) (Bd : Nat) (K : Value → AH → Nat → Prop) : V129 [.agg #[lst (s_symbols)], lst (t), .int .i64 (a), lst (u), .int .i64 (b)] H Bd K = ((sm (GSignature.mk s_symbols) ∧ sm t ∧ sm u ∧ sigF (GSignature.mk s_symbols) = 0 ∧ nodes (GSignature.mk s_symbols) t ∧ nodes (GSignature.mk s_symbols) u ∧ 0 ≤ a ∧ a ≤ t.length ∧ 0 ≤ b ∧ b ≤ u.length ∧ 0 ≤ ep (GSignature.mk s_symbols) t 1 a.toNat ∧ 0 ≤ ep (GSignature.mk s_symbols) u 1 b.toNat) ∧ K (.bool (decide (subT (GSignature.mk s_symbols) t a.toNat = subT (GSignature.mk s_symbols) u b.toNat))) H Bd) := by
  refine propext ⟨fun h => ?_, fun h => ⟨_, _, _, _, _, rfl, h⟩⟩
  obtain ⟨s', t', a', u', b', e, h⟩ := h
  obtain ⟨ssymbols'⟩ := s'
  skip
  skip
  skip
  skip
  simp only [enc_GSignature, enc_int, enc_str, enc_list, enc_bool, enc_byte, List.cons.injEq, Value.agg.injEq, toArr_inj, Value.int.injEq, Value.bool.injEq, Value.string.injEq, Value.slice.injEq, Value.func.injEq, Value.pointer.injEq, Option.some.injEq, Addr.mk.injEq, lst_inj, true_and, and_true] at e
  obtain ⟨rfl, rfl, rfl, rfl, rfl⟩ := e
  exact h
def W129 : Trans := fun args H Bd K => ∃ (ps vt va vu vb : Value), args = [ps, vt, va, vu, vb] ∧ Yld (cellsAt H 1 ps) fun cs => callW V129 [.agg cs.toArray, vt, va, vu, vb] H Bd K
@[go_sem ↓] theorem W129_eq (ps vt va vu vb : Value) (H : AH) (Bd : Nat) (K : Value → AH → Nat → Prop) : W129 [ps, vt, va, vu, vb] H Bd K = (Yld (cellsAt H 1 ps) fun cs => callW V129 (idS [.agg cs.toArray, vt, va, vu, vb]) H Bd K) := by
  refine propext ⟨fun h => ?_, fun h => ⟨_, _, _, _, _, rfl, h⟩⟩
  obtain ⟨ps', vt', va', vu', vb', e, h⟩ := h
  simp only [List.cons.injEq, and_true] at e
  obtain ⟨rfl, rfl, rfl, rfl, rfl⟩ := e
  exact h
theorem W129_ok : OK 129 W129 := by
  rintro args H Bd K ⟨ps, vt, va, vu, vb, rfl, cs, es, h⟩
  obtain ⟨s, t, a, u, b, e, hpre, hK⟩ := h
  simp only [List.cons.injEq, and_true] at e
  obtain ⟨Es, rfl, rfl, rfl, rfl⟩ := e
  obtain rfl := agg_inj Es
  refine fn_pure pok (((Env.base _).add 104 _ W104_ok).add 139 _ W139_ok) [(1, [0,1,2,3,4,7,8,9,10,11,5,6,12,13,14,15], [⟨0, [], []⟩, ⟨1, [], []⟩, ⟨2, [], []⟩, ⟨3, [], []⟩, ⟨4, [], []⟩, ⟨7, [], []⟩, ⟨8, [], []⟩, ⟨9, [], []⟩, ⟨10, [], []⟩, ⟨11, [], []⟩, ⟨5, [], []⟩, ⟨6, [], []⟩, ⟨12, [], []⟩, ⟨13, [], []⟩, ⟨14, [], []⟩, ⟨15, [], []⟩], .nil)] _ hK Tryz.func129 rfl (rs := [.tmp 10]) rfl Tryz.ntmps129 (by simp) Tryz.call129 (by kernel_rfl) (fun ha hb => .bool _) (fun hb ha => ?_)
  have Ps := cellsAt_out es (NB.vpok (ha ps (by simp)))
  simp only [enc_GSignature] at Ps
  obtain ⟨h1, h2, h3, h4, h5, h6, h7, h8, h9, h10, h11, h12⟩ := hpre
  obtain ⟨a, rfl⟩ := Int.eq_ofNat_of_zero_le h7
  obtain ⟨b, rfl⟩ := Int.eq_ofNat_of_zero_le h9
  simp only [Int.toNat_natCast] at h11 h12
  rcases ep_cases (s := s) (t := t) 1 (show a ≤ t.length by omega) with ⟨q1, _⟩ | ⟨m, q1, q2, q3, _⟩
  · omega
  rcases ep_cases (s := s) (t := u) 1 (show b ≤ u.length by omega) with ⟨r1, _⟩ | ⟨n, r1, r2, r3, _⟩
  · omega
  have hst := sm_drop h2 a
  have hsu := sm_drop h3 b
  simp (maxSteps := 2000000) (disch := first | assumption | (refine asm_intro ?_; assumption) | exact Nat.le_add_right _ _ | exact Nat.le_refl _ | omega | (simp (disch := first | exact Nat.le_add_right _ _ | omega) only [Le_upd hb, Le_app hb, Le_rfl, free_T hb, free_upd]; done) | fail) only [go_sem, push_cast, and_pos, Le_updF, Le_upd hb, free_T hb, Ps.nil, Ps.fldL (m := 1) rfl, Ps.ldL (m := 1) rfl, Ps.ld0L (m := 1) rfl, Ps.cellsL (m := 1) rfl, Ps.cellsOL (m := 1) rfl, h1, h2, h3, h4, h5, h6, q3, r3]
  have c1 : ((a : Int) + m).toNat = a + m := by omega
  have c2 : ((b : Int) + n).toNat = b + n := by omega
  have d1 : subT s t a = (t.take (a + m)).drop a := by unfold subT; rw [q3, Int.toNat_natCast, List.drop_take]
  have d2 : subT s u b = (u.take (b + n)).drop b := by unfold subT; rw [r3, Int.toNat_natCast, List.drop_take]
  rw [c1, c2]
  refine ⟨sm_drop (sm_take h2 _) _, ?_⟩
  simp only [d1, d2]
def W130 : Trans := fun args H Bd K => ∃ (order : List Int) (n : Int), args = [lst (order), .int .i64 (n)] ∧ ((sm order) ∧ K (.int .i64 (rk order n)) H Bd)
@[go_sem ↓] theorem W130_eq (order : List Int) (n : Int) (H : AH) (Bd : Nat) (K : Value → AH → Nat → Prop) : W130 [lst (order), .int .i64 (n)] H Bd K = ((sm order) ∧ K (.int .i64 (rk order n)) H Bd) := by
  refine propext ⟨fun h => ?_, fun h => ⟨_, _, rfl, h⟩⟩
  obtain ⟨order', n', e, h⟩ := h
  skip
  skip
  simp only [List.cons.injEq, Value.agg.injEq, toArr_inj, Value.int.injEq, Value.bool.injEq, Value.string.injEq, Value.slice.injEq, Value.func.injEq, Value.pointer.injEq, Option.some.injEq, Addr.mk.injEq, lst_inj, true_and, and_true] at e
  obtain ⟨rfl, rfl⟩ := e
  exact h
theorem W130_ok : OK 130 W130 := by
  rintro args H Bd K ⟨order, n, rfl, hpre, hK⟩
  refine fn_pure pok (Env.base _) [] _ hK Tryz.func130 rfl (rs := [.tmp 4]) rfl Tryz.ntmps130 (by simp) Tryz.call130 (by kernel_rfl) (fun ha hb => .int _ _) (fun hb ha => ?_)
  have hlen := sm_len hpre
  simp (maxSteps := 2000000) (disch := first | assumption | (refine asm_intro ?_; assumption) | exact Nat.le_add_right _ _ | exact Nat.le_refl _ | omega | (simp (disch := first | exact Nat.le_add_right _ _ | omega) only [Le_upd hb, Le_app hb, Le_rfl, free_T hb, free_upd]; done) | fail) only [go_sem, push_cast, and_pos, Le_updF, Le_upd hb, free_T hb]
  refine tr_for (fun i => ∀ j, j < i → ∀ x, order[j]? = some x → decide (n = x) = false) (order.length) (fun i => [(0, lst order), (1, .int .i64 n), (5, .int .i64 i)]) (by simp) (by simp only [go_sem, push_cast, and_pos, Le_updF]) ?_
  intro i Bi hIi hii hBi
  refine vq_conv pok (E := (Env.base _)) (PL := []) (by kernel_rfl) ?_
  rcases Nat.lt_or_ge i (order.length) with hlti | hgei
  · have e1 : order[i]? = some order[i] := List.getElem?_eq_getElem hlti
    simp (maxSteps := 2000000) (disch := first | assumption | (refine asm_intro ?_; assumption) | exact Nat.le_add_right _ _ | exact Nat.le_refl _ | omega | (simp (disch := first | exact Nat.le_add_right _ _ | omega) only [Le_upd hb, Le_app hb, Le_rfl, free_T hb, free_upd]; done) | fail) only [go_sem, push_cast, and_pos, Le_updF, Le_upd hb, free_T hb, e1]
    unfold rk
    exact ⟨fun h => by rw [fidx_hit hlti hIi (by simpa using h.symm)], fun h => fun j hj x hx => by
      by_cases e : j = i
      · subst e; rw [e1] at hx; cases hx; simpa using fun e => h e.symm
      · simpa using hIi j (by omega) x hx⟩
  · simp (maxSteps := 2000000) (disch := first | assumption | (refine asm_intro ?_; assumption) | exact Nat.le_add_right _ _ | exact Nat.le_refl _ | omega | (simp (disch := first | exact Nat.le_add_right _ _ | omega) only [Le_upd hb, Le_app hb, Le_rfl, free_T hb, free_upd]; done) | fail) only [go_sem, push_cast, and_pos, Le_updF, Le_upd hb, free_T hb]
    refine vq_conv pok (E := (Env.base _)) (PL := []) (by kernel_rfl) ?_
    simp (maxSteps := 2000000) (disch := first | assumption | (refine asm_intro ?_; assumption) | exact Nat.le_add_right _ _ | exact Nat.le_refl _ | omega | (simp (disch := first | exact Nat.le_add_right _ _ | omega) only [Le_upd hb, Le_app hb, Le_rfl, free_T hb, free_upd]; done) | fail) only [go_sem, push_cast, and_pos, Le_updF, Le_upd hb, free_T hb]
    unfold rk
    rw [fidx_none fun j hj x hx => hIi j (by omega) x hx]
def V120 : Trans := fun args H Bd K => ∃ (s : GSignature) (order : List Int) (a : List Int) (b : List Int) (i : Int) (j : Int) (above : Own), args = [.agg (enc (s)).toArray, lst (order), lst (a), lst (b), .int .i64 (i), .int .i64 (j), .slice (some ⟨(above).n, 0, some 1⟩) (above).len (above).cap] ∧ (Yld (H above.n) fun b0 => ((sm s ∧ sm order ∧ sm a ∧ sm b ∧ sigF s = 0) ∧ (nodes s a ∧ nodes s b ∧ places s a ∧ places s b) ∧ (0 ≤ i ∧ i < a.length ∧ 0 ≤ j ∧ j < b.length) ∧ (a.length ≤ 24 ∧ b.length ≤ 24) ∧ tabOK s order a b i.toNat j.toNat b0.cells ∧ above.len = a.length * b.length) ∧ K (.bool (gt s order a b i.toNat j.toNat)) H Bd)
@[go_sem ↓] theorem V120_eq (s_symbols : List GSymbol) (order : List Int) (a : List Int) (b : List Int) (i : Int) (j : Int) (above_n : Nat) (above_l : Nat) (above_c : Nat) (H : AH) (Bd : Nat) (K : Value → AH → Nat → Prop) : V120 [.agg #[lst (s_symbols)], lst (order), lst (a), lst (b), .int .i64 (i), .int .i64 (j), .slice (some ⟨above_n, 0, some 1⟩) above_l above_c] H Bd K = (Yld (H above_n) fun b0 => ((sm (GSignature.mk s_symbols) ∧ sm order ∧ sm a ∧ sm b ∧ sigF (GSignature.mk s_symbols) = 0) ∧ (nodes (GSignature.mk s_symbols) a ∧ nodes (GSignature.mk s_symbols) b ∧ places (GSignature.mk s_symbols) a ∧ places (GSignature.mk s_symbols) b) ∧ (0 ≤ i ∧ i < a.length ∧ 0 ≤ j ∧ j < b.length) ∧ (a.length ≤ 24 ∧ b.length ≤ 24) ∧ tabOK (GSignature.mk s_symbols) order a b i.toNat j.toNat b0.cells ∧ above_l = a.length * b.length) ∧ K (.bool (gt (GSignature.mk s_symbols) order a b i.toNat j.toNat)) H Bd) := by
  refine propext ⟨fun h => ?_, fun h => ⟨_, _, _, _, _, _, (Own.mk above_n above_l above_c), rfl, h⟩⟩
  obtain ⟨s', order', a', b', i', j', above', e, h⟩ := h
  obtain ⟨ssymbols'⟩ := s'
  skip
  skip
  skip
  skip
  skip
  obtain ⟨aboven', abovel', abovec'⟩ := above'
  simp only [enc_GSignature, enc_int, enc_str, enc_list, enc_bool, enc_byte, List.cons.injEq, Value.agg.injEq, toArr_inj, Value.int.injEq, Value.bool.injEq, Value.string.injEq, Value.slice.injEq, Value.func.injEq, Value.pointer.injEq, Option.some.injEq, Addr.mk.injEq, lst_inj, true_and, and_true] at e
  obtain ⟨rfl, rfl, rfl, rfl, rfl, rfl, ⟨rfl, rfl, rfl⟩⟩ := e
  exact h
def W120 : Trans := fun args H Bd K => ∃ (ps vorder va vb vi vj vabove : Value), args = [ps, vorder, va, vb, vi, vj, vabove] ∧ Yld (cellsAt H 1 ps) fun cs => callW V120 [.agg cs.toArray, vorder, va, vb, vi, vj, vabove] H Bd K
@[go_sem ↓] theorem W120_eq (ps vorder va vb vi vj vabove : Value) (H : AH) (Bd : Nat) (K : Value → AH → Nat → Prop) : W120 [ps, vorder, va, vb, vi, vj, vabove] H Bd K = (Yld (cellsAt H 1 ps) fun cs => callW V120 (idS [.agg cs.toArray, vorder, va, vb, vi, vj, vabove]) H Bd K) := by
  refine propext ⟨fun h => ?_, fun h => ⟨_, _, _, _, _, _, _, rfl, h⟩⟩
  obtain ⟨ps', vorder', va', vb', vi', vj', vabove', e, h⟩ := h
  simp only [List.cons.injEq, and_true] at e
  obtain ⟨rfl, rfl, rfl, rfl, rfl, rfl, rfl⟩ := e
  exact h
set_option maxHeartbeats 2000000 in
theorem W120_ok : OK 120 W120 := by
  rintro args H Bd K ⟨ps, vorder, va, vb, vi, vj, vabove, rfl, cs, es, h⟩
  obtain ⟨s, order, a, b, i, j, above, e, b0, hb0, hpre, hK⟩ := h
  simp only [List.cons.injEq, and_true] at e
  obtain ⟨Es, rfl, rfl, rfl, rfl, rfl, rfl⟩ := e
  obtain rfl := agg_inj Es
  refine fn_pure pok ((((((Env.base _).add 104 _ W104_ok).add 71 _ W71_ok).add 128 _ W128_ok).add 129 _ W129_ok).add 130 _ W130_ok) [(3, [0,1,2,3,4,5,6,7,8,9,10,13,14,15,16,11,12,17,18,19,20], [⟨0, [], []⟩, ⟨1, [], []⟩, ⟨2, [], []⟩, ⟨3, [], []⟩, ⟨4, [], []⟩, ⟨5, [], []⟩, ⟨6, [], []⟩, ⟨7, [], []⟩, ⟨8, [], []⟩, ⟨9, [], []⟩, ⟨10, [], []⟩, ⟨13, [], []⟩, ⟨14, [], []⟩, ⟨15, [], []⟩, ⟨16, [], []⟩, ⟨11, [], [16]⟩, ⟨12, [], []⟩, ⟨17, [], []⟩, ⟨18, [], []⟩, ⟨19, [], []⟩, ⟨20, [], []⟩], .nil), (10, [], [], (.k 12 (.grp false 74 83 9 [75, 76, 77, 78, 79, 80, 81, 82, 83] 84 none (.k 9 .nil) .nil))), (12, [0,1,2,3,4,6,7,8,9,10,5,11,12], [⟨0, [], []⟩, ⟨1, [], []⟩, ⟨2, [], []⟩, ⟨3, [], []⟩, ⟨4, [], []⟩, ⟨6, [], []⟩, ⟨7, [], []⟩, ⟨8, [], []⟩, ⟨9, [], []⟩, ⟨10, [], []⟩, ⟨5, [], [10]⟩, ⟨11, [], []⟩, ⟨12, [], []⟩], .nil), (20, [0,1,2,3,4,5,6,7,8], [⟨0, [], []⟩, ⟨1, [], []⟩, ⟨2, [], []⟩, ⟨3, [], []⟩, ⟨4, [], []⟩, ⟨5, [], []⟩, ⟨6, [], []⟩, ⟨7, [], []⟩, ⟨8, [], []⟩], .nil), (23, [], [], (.k 5 (.grp true 133 137 4 [134, 135, 136, 137] 138 none (.k 4 .nil) .nil))), (25, [0,1,2,3,4,5,6,7,8,9,10,11,12], [⟨0, [], []⟩, ⟨1, [], []⟩, ⟨2, [], []⟩, ⟨3, [], []⟩, ⟨4, [], []⟩, ⟨5, [], []⟩, ⟨6, [], []⟩, ⟨7, [], []⟩, ⟨8, [], []⟩, ⟨9, [], []⟩, ⟨10, [], []⟩, ⟨11, [], []⟩, ⟨12, [], []⟩], .nil), (26, [0,1,2,3,4,5,6,7,8,9,10,11,12,13,14], [⟨0, [], []⟩, ⟨1, [], []⟩, ⟨2, [], []⟩, ⟨3, [], []⟩, ⟨4, [], []⟩, ⟨5, [], []⟩, ⟨6, [], []⟩, ⟨7, [], []⟩, ⟨8, [], []⟩, ⟨9, [], []⟩, ⟨10, [], []⟩, ⟨11, [], []⟩, ⟨12, [], []⟩, ⟨13, [], []⟩, ⟨14, [], []⟩], .nil)] _ hK Tryz.func120 rfl (rs := [.tmp 14]) rfl Tryz.ntmps120 (by simp) Tryz.call120 (by kernel_rfl) (fun ha hb => .bool _) (fun hb ha => ?_)
  have Ps := cellsAt_out es (NB.vpok (ha ps (by simp)))
  simp only [enc_GSignature] at Ps
  obtain ⟨⟨h1, h2, h3, h4, h5⟩, ⟨n1, n2, p1, p2⟩, ⟨i1, i2, j1, j2⟩, ⟨l1, l2⟩, ht, hl⟩ := hpre
  obtain ⟨i, rfl⟩ := Int.eq_ofNat_of_zero_le i1
  obtain ⟨j, rfl⟩ := Int.eq_ofNat_of_zero_le j1
  simp only [Int.toNat_natCast] at ht ⊢
  have hs := sig_ok h5
  have hal : (args s a i).length ≤ 2 := by rw [args_len]; exact arN_le hs _
  have hbl : (args s b j).length ≤ 2 := by rw [args_len]; exact arN_le hs _
  have hia : i < a.length := by omega
  have hjb : j < b.length := by omega
  have ea : a[i]? = some a[i] := List.getElem?_eq_getElem hia
  have eb : b[j]? = some b[j] := List.getElem?_eq_getElem hjb
  have hpa := p1 i hia
  have hpb := p2 j hjb
  by_cases hy : b[j] < 0
  · have hv := gt_var (order := order) p1 p2 hia hjb hy
    rcases ep_cases (s := s) (t := a) 1 (show i ≤ a.length by omega) with ⟨q1, _⟩ | ⟨m, q1, q2, q3, _⟩
    · omega
    have d1 : subT s a i = (a.take (i + m)).drop i := by unfold subT; rw [q3, Int.toNat_natCast, List.drop_take]
    have c1 : ((i : Int) + m).toNat = i + m := by omega
    simp (maxSteps := 2000000) (disch := first | assumption | (refine asm_intro ?_; assumption) | exact Nat.le_add_right _ _ | exact Nat.le_refl _ | omega | (simp (disch := first | exact Nat.le_add_right _ _ | omega) only [Le_upd hb, Le_app hb, Le_rfl, free_T hb, free_upd]; done) | fail) only [go_sem, push_cast, and_pos, Le_updF, Le_upd hb, free_T hb, Ps.nil, Ps.fldL (m := 1) rfl, Ps.ldL (m := 1) rfl, Ps.ld0L (m := 1) rfl, Ps.cellsL (m := 1) rfl, Ps.cellsOL (m := 1) rfl, ea, eb, hy, h1, h3, h5, n1, q3, c1]
    rw [hv, d1, ← count_any]
    exact ⟨fun h => ⟨sm_drop (sm_take h3 _) _, by simp [h]⟩, fun h => by simp [h]⟩
  by_cases hx : a[i] < 0
  · have hv := gt_low (order := order) p1 p2 hia hjb hy hx
    simp (maxSteps := 2000000) (disch := first | assumption | (refine asm_intro ?_; assumption) | exact Nat.le_add_right _ _ | exact Nat.le_refl _ | omega | (simp (disch := first | exact Nat.le_add_right _ _ | omega) only [Le_upd hb, Le_app hb, Le_rfl, free_T hb, free_upd]; done) | fail) only [go_sem, push_cast, and_pos, Le_updF, Le_upd hb, free_T hb, Ps.nil, Ps.fldL (m := 1) rfl, Ps.ldL (m := 1) rfl, Ps.ld0L (m := 1) rfl, Ps.cellsL (m := 1) rfl, Ps.cellsOL (m := 1) rfl, ea, eb, hy, hx, hv]
  · have hrest := gt_rest (order := order) p1 p2 hia hjb hy hx
    have ga : a.getD i 0 = a[i] := getD_at hia
    have gb : b.getD j 0 = b[j] := getD_at hjb
    have ha1 : argsP s a i (arN s a[i]) = args s a i := by unfold args; rw [ga]
    have hb1 : argsP s b j (arN s b[j]) = args s b j := by unfold args; rw [gb]
    have hx0 : 0 ≤ a[i] := by omega
    have hy0 : 0 ≤ b[j] := by omega
    simp (maxSteps := 2000000) (disch := first | assumption | (refine asm_intro ?_; assumption) | exact Nat.le_add_right _ _ | exact Nat.le_refl _ | omega | (simp (disch := first | exact Nat.le_add_right _ _ | omega) only [Le_upd hb, Le_app hb, Le_rfl, free_T hb, free_upd]; done) | fail) only [go_sem, push_cast, and_pos, Le_updF, Le_upd hb, free_T hb, Ps.nil, Ps.fldL (m := 1) rfl, Ps.ldL (m := 1) rfl, Ps.ld0L (m := 1) rfl, Ps.cellsL (m := 1) rfl, Ps.cellsOL (m := 1) rfl, ea, eb, hy, hx, h1, h3, h5, n1, n2, hpa, ga, ha1, hx0]
    refine tr_for (fun x => ∀ m, m < x → ∀ p, (args s a i)[m]? = some p → gt s order a b p.toNat j = false ∧ subT s a p.toNat ≠ subT s b j) ((args s a i).length) (fun x => [(0, ps), (1, lst order), (2, lst a), (3, lst b), (4, .int .i64 i), (5, .int .i64 j), (6, .slice (some ⟨above.n, 0, some 1⟩) above.len above.cap), (15, .int .i64 b.length), (16, lst (args s a i)), (17, .int .i64 x)]) (by simp) (by simp only [go_sem, push_cast, and_pos, Le_updF]) ?_
    intro x Bx hIx hix hBx
    refine vq_conv pok (E := ((((((Env.base _).add 104 _ W104_ok).add 71 _ W71_ok).add 128 _ W128_ok).add 129 _ W129_ok).add 130 _ W130_ok)) (PL := [(3, [0,1,2,3,4,5,6,7,8,9,10,13,14,15,16,11,12,17,18,19,20], [⟨0, [], []⟩, ⟨1, [], []⟩, ⟨2, [], []⟩, ⟨3, [], []⟩, ⟨4, [], []⟩, ⟨5, [], []⟩, ⟨6, [], []⟩, ⟨7, [], []⟩, ⟨8, [], []⟩, ⟨9, [], []⟩, ⟨10, [], []⟩, ⟨13, [], []⟩, ⟨14, [], []⟩, ⟨15, [], []⟩, ⟨16, [], []⟩, ⟨11, [], [16]⟩, ⟨12, [], []⟩, ⟨17, [], []⟩, ⟨18, [], []⟩, ⟨19, [], []⟩, ⟨20, [], []⟩], .nil), (10, [], [], (.k 12 (.grp false 74 83 9 [75, 76, 77, 78, 79, 80, 81, 82, 83] 84 none (.k 9 .nil) .nil))), (12, [0,1,2,3,4,6,7,8,9,10,5,11,12], [⟨0, [], []⟩, ⟨1, [], []⟩, ⟨2, [], []⟩, ⟨3, [], []⟩, ⟨4, [], []⟩, ⟨6, [], []⟩, ⟨7, [], []⟩, ⟨8, [], []⟩, ⟨9, [], []⟩, ⟨10, [], []⟩, ⟨5, [], [10]⟩, ⟨11, [], []⟩, ⟨12, [], []⟩], .nil), (20, [0,1,2,3,4,5,6,7,8], [⟨0, [], []⟩, ⟨1, [], []⟩, ⟨2, [], []⟩, ⟨3, [], []⟩, ⟨4, [], []⟩, ⟨5, [], []⟩, ⟨6, [], []⟩, ⟨7, [], []⟩, ⟨8, [], []⟩], .nil), (23, [], [], (.k 5 (.grp true 133 137 4 [134, 135, 136, 137] 138 none (.k 4 .nil) .nil))), (25, [0,1,2,3,4,5,6,7,8,9,10,11,12], [⟨0, [], []⟩, ⟨1, [], []⟩, ⟨2, [], []⟩, ⟨3, [], []⟩, ⟨4, [], []⟩, ⟨5, [], []⟩, ⟨6, [], []⟩, ⟨7, [], []⟩, ⟨8, [], []⟩, ⟨9, [], []⟩, ⟨10, [], []⟩, ⟨11, [], []⟩, ⟨12, [], []⟩], .nil), (26, [0,1,2,3,4,5,6,7,8,9,10,11,12,13,14], [⟨0, [], []⟩, ⟨1, [], []⟩, ⟨2, [], []⟩, ⟨3, [], []⟩, ⟨4, [], []⟩, ⟨5, [], []⟩, ⟨6, [], []⟩, ⟨7, [], []⟩, ⟨8, [], []⟩, ⟨9, [], []⟩, ⟨10, [], []⟩, ⟨11, [], []⟩, ⟨12, [], []⟩, ⟨13, [], []⟩, ⟨14, [], []⟩], .nil)]) (by kernel_rfl) ?_
    rcases Nat.lt_or_ge x ((args s a i).length) with hltx | hgex
    · obtain ⟨p, e1, g1, g2⟩ := args_get p1 hia hltx
      have e2 := ht p j g2 hjb (.inl g1)
      have m1 := mul_at g2 hjb
      have m2 := mul_sm l1 l2
      have c3 : ((p : Int) * b.length + j).toNat = p * b.length + j := by omega
      simp (maxSteps := 2000000) (disch := first | assumption | (refine asm_intro ?_; assumption) | exact Nat.le_add_right _ _ | exact Nat.le_refl _ | omega | (simp (disch := first | exact Nat.le_add_right _ _ | omega) only [Le_upd hb, Le_app hb, Le_rfl, free_T hb, free_upd]; done) | fail) only [go_sem, push_cast, and_pos, Le_updF, Le_upd hb, free_T hb, Ps.nil, Ps.fldL (m := 1) rfl, Ps.ldL (m := 1) rfl, Ps.ld0L (m := 1) rfl, Ps.cellsL (m := 1) rfl, Ps.cellsOL (m := 1) rfl, e1, e2, hb0, c3, h1, h3, h4, h5, n1, n2, hpb]
      refine ⟨fun _ => p1 p g2, fun h => ?_, fun h m hm q hq => ?_⟩
      · rw [gt_arg p1 p2 hia hjb hy hx (p := (p : Int)) (List.mem_of_getElem? e1) (by simpa using h)]
      · by_cases e : m = x
        · subst e; rw [e1] at hq; cases hq; simpa using h
        · exact hIx m (by omega) q hq
    · have hr := hrest fun p hp => by
        obtain ⟨m, hm, rfl⟩ := List.getElem_of_mem hp
        exact hIx m (by omega) _ (List.getElem?_eq_getElem hm)
      simp (maxSteps := 2000000) (disch := first | assumption | (refine asm_intro ?_; assumption) | exact Nat.le_add_right _ _ | exact Nat.le_refl _ | omega | (simp (disch := first | exact Nat.le_add_right _ _ | omega) only [Le_upd hb, Le_app hb, Le_rfl, free_T hb, free_upd]; done) | fail) only [go_sem, push_cast, and_pos, Le_updF, Le_upd hb, free_T hb, Ps.nil, Ps.fldL (m := 1) rfl, Ps.ldL (m := 1) rfl, Ps.ld0L (m := 1) rfl, Ps.cellsL (m := 1) rfl, Ps.cellsOL (m := 1) rfl]
      refine vq_conv pok (E := ((((((Env.base _).add 104 _ W104_ok).add 71 _ W71_ok).add 128 _ W128_ok).add 129 _ W129_ok).add 130 _ W130_ok)) (PL := [(3, [0,1,2,3,4,5,6,7,8,9,10,13,14,15,16,11,12,17,18,19,20], [⟨0, [], []⟩, ⟨1, [], []⟩, ⟨2, [], []⟩, ⟨3, [], []⟩, ⟨4, [], []⟩, ⟨5, [], []⟩, ⟨6, [], []⟩, ⟨7, [], []⟩, ⟨8, [], []⟩, ⟨9, [], []⟩, ⟨10, [], []⟩, ⟨13, [], []⟩, ⟨14, [], []⟩, ⟨15, [], []⟩, ⟨16, [], []⟩, ⟨11, [], [16]⟩, ⟨12, [], []⟩, ⟨17, [], []⟩, ⟨18, [], []⟩, ⟨19, [], []⟩, ⟨20, [], []⟩], .nil), (10, [], [], (.k 12 (.grp false 74 83 9 [75, 76, 77, 78, 79, 80, 81, 82, 83] 84 none (.k 9 .nil) .nil))), (12, [0,1,2,3,4,6,7,8,9,10,5,11,12], [⟨0, [], []⟩, ⟨1, [], []⟩, ⟨2, [], []⟩, ⟨3, [], []⟩, ⟨4, [], []⟩, ⟨6, [], []⟩, ⟨7, [], []⟩, ⟨8, [], []⟩, ⟨9, [], []⟩, ⟨10, [], []⟩, ⟨5, [], [10]⟩, ⟨11, [], []⟩, ⟨12, [], []⟩], .nil), (20, [0,1,2,3,4,5,6,7,8], [⟨0, [], []⟩, ⟨1, [], []⟩, ⟨2, [], []⟩, ⟨3, [], []⟩, ⟨4, [], []⟩, ⟨5, [], []⟩, ⟨6, [], []⟩, ⟨7, [], []⟩, ⟨8, [], []⟩], .nil), (23, [], [], (.k 5 (.grp true 133 137 4 [134, 135, 136, 137] 138 none (.k 4 .nil) .nil))), (25, [0,1,2,3,4,5,6,7,8,9,10,11,12], [⟨0, [], []⟩, ⟨1, [], []⟩, ⟨2, [], []⟩, ⟨3, [], []⟩, ⟨4, [], []⟩, ⟨5, [], []⟩, ⟨6, [], []⟩, ⟨7, [], []⟩, ⟨8, [], []⟩, ⟨9, [], []⟩, ⟨10, [], []⟩, ⟨11, [], []⟩, ⟨12, [], []⟩], .nil), (26, [0,1,2,3,4,5,6,7,8,9,10,11,12,13,14], [⟨0, [], []⟩, ⟨1, [], []⟩, ⟨2, [], []⟩, ⟨3, [], []⟩, ⟨4, [], []⟩, ⟨5, [], []⟩, ⟨6, [], []⟩, ⟨7, [], []⟩, ⟨8, [], []⟩, ⟨9, [], []⟩, ⟨10, [], []⟩, ⟨11, [], []⟩, ⟨12, [], []⟩, ⟨13, [], []⟩, ⟨14, [], []⟩], .nil)]) (by kernel_rfl) ?_
      simp (maxSteps := 2000000) (disch := first | assumption | (refine asm_intro ?_; assumption) | exact Nat.le_add_right _ _ | exact Nat.le_refl _ | omega | (simp (disch := first | exact Nat.le_add_right _ _ | omega) only [Le_upd hb, Le_app hb, Le_rfl, free_T hb, free_upd]; done) | fail) only [go_sem, push_cast, and_pos, Le_updF, Le_upd hb, free_T hb, Ps.nil, Ps.fldL (m := 1) rfl, Ps.ldL (m := 1) rfl, Ps.ld0L (m := 1) rfl, Ps.cellsL (m := 1) rfl, Ps.cellsOL (m := 1) rfl, ea, eb, h1, h2, h4, h5, n2, hpb, gb, hb1, hy0]
      refine ⟨fun hlt => by rw [hr, if_pos hlt], fun hge => ?_⟩
      rw [if_neg hge] at hr
      refine tr_for (fun y => ∀ m, m < y → ∀ q, (args s b j)[m]? = some q → gt s order a b i q.toNat = true) ((args s b j).length) (fun y => [(0, ps), (2, lst a), (3, lst b), (4, .int .i64 i), (5, .int .i64 j), (6, .slice (some ⟨above.n, 0, some 1⟩) above.len above.cap), (15, .int .i64 b.length), (16, lst (args s a i)), (18, lst (args s b j)), (19, .int .i64 y)]) (by simp) (by simp only [go_sem, push_cast, and_pos, Le_updF]) ?_
      intro y By hIy hiy hBy
      refine vq_conv pok (E := ((((((Env.base _).add 104 _ W104_ok).add 71 _ W71_ok).add 128 _ W128_ok).add 129 _ W129_ok).add 130 _ W130_ok)) (PL := [(3, [0,1,2,3,4,5,6,7,8,9,10,13,14,15,16,11,12,17,18,19,20], [⟨0, [], []⟩, ⟨1, [], []⟩, ⟨2, [], []⟩, ⟨3, [], []⟩, ⟨4, [], []⟩, ⟨5, [], []⟩, ⟨6, [], []⟩, ⟨7, [], []⟩, ⟨8, [], []⟩, ⟨9, [], []⟩, ⟨10, [], []⟩, ⟨13, [], []⟩, ⟨14, [], []⟩, ⟨15, [], []⟩, ⟨16, [], []⟩, ⟨11, [], [16]⟩, ⟨12, [], []⟩, ⟨17, [], []⟩, ⟨18, [], []⟩, ⟨19, [], []⟩, ⟨20, [], []⟩], .nil), (10, [], [], (.k 12 (.grp false 74 83 9 [75, 76, 77, 78, 79, 80, 81, 82, 83] 84 none (.k 9 .nil) .nil))), (12, [0,1,2,3,4,6,7,8,9,10,5,11,12], [⟨0, [], []⟩, ⟨1, [], []⟩, ⟨2, [], []⟩, ⟨3, [], []⟩, ⟨4, [], []⟩, ⟨6, [], []⟩, ⟨7, [], []⟩, ⟨8, [], []⟩, ⟨9, [], []⟩, ⟨10, [], []⟩, ⟨5, [], [10]⟩, ⟨11, [], []⟩, ⟨12, [], []⟩], .nil), (20, [0,1,2,3,4,5,6,7,8], [⟨0, [], []⟩, ⟨1, [], []⟩, ⟨2, [], []⟩, ⟨3, [], []⟩, ⟨4, [], []⟩, ⟨5, [], []⟩, ⟨6, [], []⟩, ⟨7, [], []⟩, ⟨8, [], []⟩], .nil), (23, [], [], (.k 5 (.grp true 133 137 4 [134, 135, 136, 137] 138 none (.k 4 .nil) .nil))), (25, [0,1,2,3,4,5,6,7,8,9,10,11,12], [⟨0, [], []⟩, ⟨1, [], []⟩, ⟨2, [], []⟩, ⟨3, [], []⟩, ⟨4, [], []⟩, ⟨5, [], []⟩, ⟨6, [], []⟩, ⟨7, [], []⟩, ⟨8, [], []⟩, ⟨9, [], []⟩, ⟨10, [], []⟩, ⟨11, [], []⟩, ⟨12, [], []⟩], .nil), (26, [0,1,2,3,4,5,6,7,8,9,10,11,12,13,14], [⟨0, [], []⟩, ⟨1, [], []⟩, ⟨2, [], []⟩, ⟨3, [], []⟩, ⟨4, [], []⟩, ⟨5, [], []⟩, ⟨6, [], []⟩, ⟨7, [], []⟩, ⟨8, [], []⟩, ⟨9, [], []⟩, ⟨10, [], []⟩, ⟨11, [], []⟩, ⟨12, [], []⟩, ⟨13, [], []⟩, ⟨14, [], []⟩], .nil)]) (by kernel_rfl) ?_
      rcases Nat.lt_or_ge y ((args s b j).length) with hlty | hgey
      · obtain ⟨q, e1, g1, g2⟩ := args_get p2 hjb hlty
        have e2 := ht i q hia g2 (.inr ⟨rfl, g1⟩)
        have m1 := mul_at hia g2
        have m2 := mul_sm l1 l2
        have c3 : ((i : Int) * b.length + q).toNat = i * b.length + q := by omega
        simp (maxSteps := 2000000) (disch := first | assumption | (refine asm_intro ?_; assumption) | exact Nat.le_add_right _ _ | exact Nat.le_refl _ | omega | (simp (disch := first | exact Nat.le_add_right _ _ | omega) only [Le_upd hb, Le_app hb, Le_rfl, free_T hb, free_upd]; done) | fail) only [go_sem, push_cast, and_pos, Le_updF, Le_upd hb, free_T hb, Ps.nil, Ps.fldL (m := 1) rfl, Ps.ldL (m := 1) rfl, Ps.ld0L (m := 1) rfl, Ps.cellsL (m := 1) rfl, Ps.cellsOL (m := 1) rfl, e1, e2, hb0, c3]
        refine ⟨fun h m hm q' hq => ?_, fun h => ?_⟩
        · by_cases e : m = y
          · subst e; rw [e1] at hq; cases hq; simpa using h
          · exact hIy m (by omega) q' hq
        · rw [hr, if_pos (List.any_eq_true.2 ⟨_, List.mem_of_getElem? e1, by simpa using h⟩)]
      · have hany : ¬ ((args s b j).any fun q => !gt s order a b i q.toNat) = true := fun hc => by
          obtain ⟨q, hq, h⟩ := List.any_eq_true.1 hc
          obtain ⟨m, hm, rfl⟩ := List.getElem_of_mem hq
          rw [hIy m (by omega) _ (List.getElem?_eq_getElem hm)] at h
          cases h
        rw [if_neg hany] at hr
        simp (maxSteps := 2000000) (disch := first | assumption | (refine asm_intro ?_; assumption) | exact Nat.le_add_right _ _ | exact Nat.le_refl _ | omega | (simp (disch := first | exact Nat.le_add_right _ _ | omega) only [Le_upd hb, Le_app hb, Le_rfl, free_T hb, free_upd]; done) | fail) only [go_sem, push_cast, and_pos, Le_updF, Le_upd hb, free_T hb, Ps.nil, Ps.fldL (m := 1) rfl, Ps.ldL (m := 1) rfl, Ps.ld0L (m := 1) rfl, Ps.cellsL (m := 1) rfl, Ps.cellsOL (m := 1) rfl]
        refine vq_conv pok (E := ((((((Env.base _).add 104 _ W104_ok).add 71 _ W71_ok).add 128 _ W128_ok).add 129 _ W129_ok).add 130 _ W130_ok)) (PL := [(3, [0,1,2,3,4,5,6,7,8,9,10,13,14,15,16,11,12,17,18,19,20], [⟨0, [], []⟩, ⟨1, [], []⟩, ⟨2, [], []⟩, ⟨3, [], []⟩, ⟨4, [], []⟩, ⟨5, [], []⟩, ⟨6, [], []⟩, ⟨7, [], []⟩, ⟨8, [], []⟩, ⟨9, [], []⟩, ⟨10, [], []⟩, ⟨13, [], []⟩, ⟨14, [], []⟩, ⟨15, [], []⟩, ⟨16, [], []⟩, ⟨11, [], [16]⟩, ⟨12, [], []⟩, ⟨17, [], []⟩, ⟨18, [], []⟩, ⟨19, [], []⟩, ⟨20, [], []⟩], .nil), (10, [], [], (.k 12 (.grp false 74 83 9 [75, 76, 77, 78, 79, 80, 81, 82, 83] 84 none (.k 9 .nil) .nil))), (12, [0,1,2,3,4,6,7,8,9,10,5,11,12], [⟨0, [], []⟩, ⟨1, [], []⟩, ⟨2, [], []⟩, ⟨3, [], []⟩, ⟨4, [], []⟩, ⟨6, [], []⟩, ⟨7, [], []⟩, ⟨8, [], []⟩, ⟨9, [], []⟩, ⟨10, [], []⟩, ⟨5, [], [10]⟩, ⟨11, [], []⟩, ⟨12, [], []⟩], .nil), (20, [0,1,2,3,4,5,6,7,8], [⟨0, [], []⟩, ⟨1, [], []⟩, ⟨2, [], []⟩, ⟨3, [], []⟩, ⟨4, [], []⟩, ⟨5, [], []⟩, ⟨6, [], []⟩, ⟨7, [], []⟩, ⟨8, [], []⟩], .nil), (23, [], [], (.k 5 (.grp true 133 137 4 [134, 135, 136, 137] 138 none (.k 4 .nil) .nil))), (25, [0,1,2,3,4,5,6,7,8,9,10,11,12], [⟨0, [], []⟩, ⟨1, [], []⟩, ⟨2, [], []⟩, ⟨3, [], []⟩, ⟨4, [], []⟩, ⟨5, [], []⟩, ⟨6, [], []⟩, ⟨7, [], []⟩, ⟨8, [], []⟩, ⟨9, [], []⟩, ⟨10, [], []⟩, ⟨11, [], []⟩, ⟨12, [], []⟩], .nil), (26, [0,1,2,3,4,5,6,7,8,9,10,11,12,13,14], [⟨0, [], []⟩, ⟨1, [], []⟩, ⟨2, [], []⟩, ⟨3, [], []⟩, ⟨4, [], []⟩, ⟨5, [], []⟩, ⟨6, [], []⟩, ⟨7, [], []⟩, ⟨8, [], []⟩, ⟨9, [], []⟩, ⟨10, [], []⟩, ⟨11, [], []⟩, ⟨12, [], []⟩, ⟨13, [], []⟩, ⟨14, [], []⟩], .nil)]) (by kernel_rfl) ?_
        simp (maxSteps := 2000000) (disch := first | assumption | (refine asm_intro ?_; assumption) | exact Nat.le_add_right _ _ | exact Nat.le_refl _ | omega | (simp (disch := first | exact Nat.le_add_right _ _ | omega) only [Le_upd hb, Le_app hb, Le_rfl, free_T hb, free_upd]; done) | fail) only [go_sem, push_cast, and_pos, Le_updF, Le_upd hb, free_T hb, Ps.nil, Ps.fldL (m := 1) rfl, Ps.ldL (m := 1) rfl, Ps.ld0L (m := 1) rfl, Ps.cellsL (m := 1) rfl, Ps.cellsOL (m := 1) rfl, ea, eb]
        refine ⟨fun heq => ?_, fun hne => by rw [hr, if_pos hne]⟩
        rw [if_neg (by simpa using heq)] at hr
        refine tr_for (fun z => ∀ m, m < z → ∀ p q : Int, (args s a i)[m]? = some p → (args s b j)[m]? = some q → subT s a p.toNat = subT s b q.toNat) (min (args s a i).length (args s b j).length) (fun z => [(0, ps), (2, lst a), (3, lst b), (4, .int .i64 i), (5, .int .i64 j), (6, .slice (some ⟨above.n, 0, some 1⟩) above.len above.cap), (15, .int .i64 b.length), (16, lst (args s a i)), (18, lst (args s b j)), (20, .int .i64 z)]) (by simp) (by simp only [go_sem, push_cast, and_pos, Le_updF]) ?_
        intro z Bz hIz hiz hBz
        refine vq_conv pok (E := ((((((Env.base _).add 104 _ W104_ok).add 71 _ W71_ok).add 128 _ W128_ok).add 129 _ W129_ok).add 130 _ W130_ok)) (PL := [(3, [0,1,2,3,4,5,6,7,8,9,10,13,14,15,16,11,12,17,18,19,20], [⟨0, [], []⟩, ⟨1, [], []⟩, ⟨2, [], []⟩, ⟨3, [], []⟩, ⟨4, [], []⟩, ⟨5, [], []⟩, ⟨6, [], []⟩, ⟨7, [], []⟩, ⟨8, [], []⟩, ⟨9, [], []⟩, ⟨10, [], []⟩, ⟨13, [], []⟩, ⟨14, [], []⟩, ⟨15, [], []⟩, ⟨16, [], []⟩, ⟨11, [], [16]⟩, ⟨12, [], []⟩, ⟨17, [], []⟩, ⟨18, [], []⟩, ⟨19, [], []⟩, ⟨20, [], []⟩], .nil), (10, [], [], (.k 12 (.grp false 74 83 9 [75, 76, 77, 78, 79, 80, 81, 82, 83] 84 none (.k 9 .nil) .nil))), (12, [0,1,2,3,4,6,7,8,9,10,5,11,12], [⟨0, [], []⟩, ⟨1, [], []⟩, ⟨2, [], []⟩, ⟨3, [], []⟩, ⟨4, [], []⟩, ⟨6, [], []⟩, ⟨7, [], []⟩, ⟨8, [], []⟩, ⟨9, [], []⟩, ⟨10, [], []⟩, ⟨5, [], [10]⟩, ⟨11, [], []⟩, ⟨12, [], []⟩], .nil), (20, [0,1,2,3,4,5,6,7,8], [⟨0, [], []⟩, ⟨1, [], []⟩, ⟨2, [], []⟩, ⟨3, [], []⟩, ⟨4, [], []⟩, ⟨5, [], []⟩, ⟨6, [], []⟩, ⟨7, [], []⟩, ⟨8, [], []⟩], .nil), (23, [], [], (.k 5 (.grp true 133 137 4 [134, 135, 136, 137] 138 none (.k 4 .nil) .nil))), (25, [0,1,2,3,4,5,6,7,8,9,10,11,12], [⟨0, [], []⟩, ⟨1, [], []⟩, ⟨2, [], []⟩, ⟨3, [], []⟩, ⟨4, [], []⟩, ⟨5, [], []⟩, ⟨6, [], []⟩, ⟨7, [], []⟩, ⟨8, [], []⟩, ⟨9, [], []⟩, ⟨10, [], []⟩, ⟨11, [], []⟩, ⟨12, [], []⟩], .nil), (26, [0,1,2,3,4,5,6,7,8,9,10,11,12,13,14], [⟨0, [], []⟩, ⟨1, [], []⟩, ⟨2, [], []⟩, ⟨3, [], []⟩, ⟨4, [], []⟩, ⟨5, [], []⟩, ⟨6, [], []⟩, ⟨7, [], []⟩, ⟨8, [], []⟩, ⟨9, [], []⟩, ⟨10, [], []⟩, ⟨11, [], []⟩, ⟨12, [], []⟩, ⟨13, [], []⟩, ⟨14, [], []⟩], .nil)]) (by kernel_rfl) ?_
        rcases Nat.lt_or_ge z (min (args s a i).length (args s b j).length) with hltz | hgez
        · obtain ⟨p, e1, g1, g2⟩ := args_get p1 hia (show z < (args s a i).length by omega)
          obtain ⟨q, e2, g3, g4⟩ := args_get p2 hjb (show z < (args s b j).length by omega)
          have e3 := ht p q g2 g4 (.inl g1)
          have m1 := mul_at g2 g4
          have m2 := mul_sm l1 l2
          have c3 : ((p : Int) * b.length + q).toNat = p * b.length + q := by omega
          have g5 := p1 p g2
          have g6 := p2 q g4
          simp (maxSteps := 2000000) (disch := first | assumption | (refine asm_intro ?_; assumption) | exact Nat.le_add_right _ _ | exact Nat.le_refl _ | omega | (simp (disch := first | exact Nat.le_add_right _ _ | omega) only [Le_upd hb, Le_app hb, Le_rfl, free_T hb, free_upd]; done) | fail) only [go_sem, push_cast, and_pos, Le_updF, Le_upd hb, free_T hb, Ps.nil, Ps.fldL (m := 1) rfl, Ps.ldL (m := 1) rfl, Ps.ld0L (m := 1) rfl, Ps.cellsL (m := 1) rfl, Ps.cellsOL (m := 1) rfl, e1, e2, e3, hb0, c3, h1, h3, h4, h5, n1, n2, g5, g6]
          refine ⟨fun h m hm p' q' hp hq => ?_, fun h => ?_⟩
          · by_cases e : m = z
            · subst e; rw [e1] at hp; rw [e2] at hq; cases hp; cases hq; simpa using h
            · exact hIz m (by omega) p' q' hp hq
          · rw [hr, lexG_go hIz _ _ e1 e2 (by simpa using h)]; simp
        · simp (maxSteps := 2000000) (disch := first | assumption | (refine asm_intro ?_; assumption) | exact Nat.le_add_right _ _ | exact Nat.le_refl _ | omega | (simp (disch := first | exact Nat.le_add_right _ _ | omega) only [Le_upd hb, Le_app hb, Le_rfl, free_T hb, free_upd]; done) | fail) only [go_sem, push_cast, and_pos, Le_updF, Le_upd hb, free_T hb, Ps.nil, Ps.fldL (m := 1) rfl, Ps.ldL (m := 1) rfl, Ps.ld0L (m := 1) rfl, Ps.cellsL (m := 1) rfl, Ps.cellsOL (m := 1) rfl]
          refine ⟨fun a1 a2 => absurd (show z < min (args s a i).length (args s b j).length by omega) (by omega), fun _ => ?_⟩
          refine vq_conv pok (E := ((((((Env.base _).add 104 _ W104_ok).add 71 _ W71_ok).add 128 _ W128_ok).add 129 _ W129_ok).add 130 _ W130_ok)) (PL := [(3, [0,1,2,3,4,5,6,7,8,9,10,13,14,15,16,11,12,17,18,19,20], [⟨0, [], []⟩, ⟨1, [], []⟩, ⟨2, [], []⟩, ⟨3, [], []⟩, ⟨4, [], []⟩, ⟨5, [], []⟩, ⟨6, [], []⟩, ⟨7, [], []⟩, ⟨8, [], []⟩, ⟨9, [], []⟩, ⟨10, [], []⟩, ⟨13, [], []⟩, ⟨14, [], []⟩, ⟨15, [], []⟩, ⟨16, [], []⟩, ⟨11, [], [16]⟩, ⟨12, [], []⟩, ⟨17, [], []⟩, ⟨18, [], []⟩, ⟨19, [], []⟩, ⟨20, [], []⟩], .nil), (10, [], [], (.k 12 (.grp false 74 83 9 [75, 76, 77, 78, 79, 80, 81, 82, 83] 84 none (.k 9 .nil) .nil))), (12, [0,1,2,3,4,6,7,8,9,10,5,11,12], [⟨0, [], []⟩, ⟨1, [], []⟩, ⟨2, [], []⟩, ⟨3, [], []⟩, ⟨4, [], []⟩, ⟨6, [], []⟩, ⟨7, [], []⟩, ⟨8, [], []⟩, ⟨9, [], []⟩, ⟨10, [], []⟩, ⟨5, [], [10]⟩, ⟨11, [], []⟩, ⟨12, [], []⟩], .nil), (20, [0,1,2,3,4,5,6,7,8], [⟨0, [], []⟩, ⟨1, [], []⟩, ⟨2, [], []⟩, ⟨3, [], []⟩, ⟨4, [], []⟩, ⟨5, [], []⟩, ⟨6, [], []⟩, ⟨7, [], []⟩, ⟨8, [], []⟩], .nil), (23, [], [], (.k 5 (.grp true 133 137 4 [134, 135, 136, 137] 138 none (.k 4 .nil) .nil))), (25, [0,1,2,3,4,5,6,7,8,9,10,11,12], [⟨0, [], []⟩, ⟨1, [], []⟩, ⟨2, [], []⟩, ⟨3, [], []⟩, ⟨4, [], []⟩, ⟨5, [], []⟩, ⟨6, [], []⟩, ⟨7, [], []⟩, ⟨8, [], []⟩, ⟨9, [], []⟩, ⟨10, [], []⟩, ⟨11, [], []⟩, ⟨12, [], []⟩], .nil), (26, [0,1,2,3,4,5,6,7,8,9,10,11,12,13,14], [⟨0, [], []⟩, ⟨1, [], []⟩, ⟨2, [], []⟩, ⟨3, [], []⟩, ⟨4, [], []⟩, ⟨5, [], []⟩, ⟨6, [], []⟩, ⟨7, [], []⟩, ⟨8, [], []⟩, ⟨9, [], []⟩, ⟨10, [], []⟩, ⟨11, [], []⟩, ⟨12, [], []⟩, ⟨13, [], []⟩, ⟨14, [], []⟩], .nil)]) (by kernel_rfl) ?_
          simp (maxSteps := 2000000) (disch := first | assumption | (refine asm_intro ?_; assumption) | exact Nat.le_add_right _ _ | exact Nat.le_refl _ | omega | (simp (disch := first | exact Nat.le_add_right _ _ | omega) only [Le_upd hb, Le_app hb, Le_rfl, free_T hb, free_upd]; done) | fail) only [go_sem, push_cast, and_pos, Le_updF, Le_upd hb, free_T hb, Ps.nil, Ps.fldL (m := 1) rfl, Ps.ldL (m := 1) rfl, Ps.ld0L (m := 1) rfl, Ps.cellsL (m := 1) rfl, Ps.cellsOL (m := 1) rfl]
          rw [hr, lexG_end fun m p q hp hq => hIz m (by have := (List.getElem?_eq_some_iff.1 hp).1; have := (List.getElem?_eq_some_iff.1 hq).1; omega) p q hp hq]
def V102 : Trans := fun args H Bd K => ∃ (s : GSignature) (order : List Int) (a : List Int) (b : List Int), args = [.agg (enc (s)).toArray, lst (order), lst (a), lst (b)] ∧ (((sm s ∧ sm order ∧ sm a ∧ sm b ∧ sigF s = 0) ∧ (nodes s a ∧ nodes s b ∧ places s a ∧ places s b) ∧ (1 ≤ a.length ∧ a.length ≤ 24 ∧ 1 ≤ b.length ∧ b.length ≤ 24)) ∧ K (lst (tabG s order a b)) H Bd)
@[go_sem ↓] theorem V102_eq (s_symbols : List GSymbol) (order : List Int) (a : List Int) (b : List Int) (H : AH) (Bd : Nat) (K : Value → AH → Nat → Prop) : V102 [.agg #[lst (s_symbols)], lst (order), lst (a), lst (b)] H Bd K = (((sm (GSignature.mk s_symbols) ∧ sm order ∧ sm a ∧ sm b ∧ sigF (GSignature.mk s_symbols) = 0) ∧ (nodes (GSignature.mk s_symbols) a ∧ nodes (GSignature.mk s_symbols) b ∧ places (GSignature.mk s_symbols) a ∧ places (GSignature.mk s_symbols) b) ∧ (1 ≤ a.length ∧ a.length ≤ 24 ∧ 1 ≤ b.length ∧ b.length ≤ 24)) ∧ K (lst (tabG (GSignature.mk s_symbols) order a b)) H Bd) := by
  refine propext ⟨fun h => ?_, fun h => ⟨_, _, _, _, rfl, h⟩⟩
  obtain ⟨s', order', a', b', e, h⟩ := h
  obtain ⟨ssymbols'⟩ := s'
  skip
  skip
  skip
  simp only [enc_GSignature, enc_int, enc_str, enc_list, enc_bool, enc_byte, List.cons.injEq, Value.agg.injEq, toArr_inj, Value.int.injEq, Value.bool.injEq, Value.string.injEq, Value.slice.injEq, Value.func.injEq, Value.pointer.injEq, Option.some.injEq, Addr.mk.injEq, lst_inj, true_and, and_true] at e
  obtain ⟨rfl, rfl, rfl, rfl⟩ := e
  exact h
def W102 : Trans := fun args H Bd K => ∃ (ps vorder va vb : Value), args = [ps, vorder, va, vb] ∧ Yld (cellsAt H 1 ps) fun cs => callW V102 [.agg cs.toArray, vorder, va, vb] H Bd K
@[go_sem ↓] theorem W102_eq (ps vorder va vb : Value) (H : AH) (Bd : Nat) (K : Value → AH → Nat → Prop) : W102 [ps, vorder, va, vb] H Bd K = (Yld (cellsAt H 1 ps) fun cs => callW V102 (idS [.agg cs.toArray, vorder, va, vb]) H Bd K) := by
  refine propext ⟨fun h => ?_, fun h => ⟨_, _, _, _, rfl, h⟩⟩
  obtain ⟨ps', vorder', va', vb', e, h⟩ := h
  simp only [List.cons.injEq, and_true] at e
  obtain ⟨rfl, rfl, rfl, rfl⟩ := e
  exact h
set_option maxHeartbeats 2000000 in
theorem W102_ok : OK 102 W102 := by
  rintro args H Bd K ⟨ps, vorder, va, vb, rfl, cs, es, h⟩
  obtain ⟨s, order, a, b, e, hpre, hK⟩ := h
  simp only [List.cons.injEq, and_true] at e
  obtain ⟨Es, rfl, rfl, rfl⟩ := e
  obtain rfl := agg_inj Es
  refine fn_pure pok ((Env.base _).add 120 _ W120_ok) [] _ hK Tryz.func102 rfl (rs := [.tmp 8]) rfl Tryz.ntmps102 (by simp) Tryz.call102 (by kernel_rfl) (fun ha hb => lst_nb _ _) (fun hb ha => ?_)
  have Ps := cellsAt_out es (NB.vpok (ha ps (by simp)))
  simp only [enc_GSignature] at Ps
  obtain ⟨⟨h1, h2, h3, h4, h5⟩, ⟨n1, n2, p1, p2⟩, ⟨l1, l2, l3, l4⟩⟩ := hpre
  have m2 := mul_sm l2 l4
  have c0 : ((a.length : Int) * b.length).toNat = a.length * b.length := by omega
  simp (maxSteps := 2000000) (disch := first | assumption | (refine asm_intro ?_; assumption) | exact Nat.le_add_right _ _ | exact Nat.le_refl _ | omega | (simp (disch := first | exact Nat.le_add_right _ _ | omega) only [Le_upd hb, Le_app hb, Le_rfl, free_T hb, free_upd]; done) | fail) only [go_sem, push_cast, and_pos, Le_updF, Le_upd hb, free_T hb, Ps.nil, Ps.fldL (m := 1) rfl, Ps.ldL (m := 1) rfl, Ps.ld0L (m := 1) rfl, Ps.cellsL (m := 1) rfl, Ps.cellsOL (m := 1) rfl, c0]
  refine tr_st (X := Nat × List Value) (fun x => x.1 ≤ a.length ∧ x.2.length = a.length * b.length ∧ ∀ p q : Nat, p < a.length → q < b.length → x.1 ≤ p → x.2[p * b.length + q]? = some (.bool (gt s order a b p q))) (fun x => x.1) (fun x => [(0, ps), (1, lst order), (2, lst a), (3, lst b), (9, .int .i64 b.length), (10, .slice (some ⟨Bd, 0, some 1⟩) (a.length * b.length) (a.length * b.length + 1)), (11, .int .i64 ((x.1 : Int) - 1))]) (fun x => upd H Bd (some ⟨x.2, true⟩)) (a.length, zmake (a.length * b.length) [.bool false]) (⟨Nat.le_refl _, by rw [zmake_len]; simp, fun p q h1 _ h2 => absurd h1 (by omega)⟩) (by simp only [go_sem, push_cast, and_pos, Le_updF]; all_goals (try simp only [Value.int.injEq, Value.slice.injEq, true_and, and_true]) <;> all_goals (try (first | trivial | omega | grind))) (by first | exact Le.refl _ | simp (disch := first | assumption | omega) only [go_sem, push_cast, and_pos, Le_updF, Le_rfl, Le_upd2]) ?_
  intro x Bx hIx hBx hbx Fx hFx
  refine vq_conv pok (E := ((Env.base _).add 120 _ W120_ok)) (PL := []) (by kernel_rfl) ?_
  obtain ⟨r, L⟩ := x
  obtain ⟨i1, i2, i3⟩ := hIx
  simp only at i1 i2 i3 hbx
  cases r with
  | zero =>
    simp (maxSteps := 2000000) (disch := first | assumption | (refine asm_intro ?_; assumption) | exact Nat.le_add_right _ _ | exact Nat.le_refl _ | omega | (simp (disch := first | exact Nat.le_add_right _ _ | omega) only [Le_upd hb, Le_app hb, Le_rfl, free_T hb, free_upd]; done) | fail) only [go_sem, push_cast, and_pos, Le_updF, Le_upd hb, free_T hb, Ps.nil, Ps.fldL (m := 1) rfl, Ps.ldL (m := 1) rfl, Ps.ld0L (m := 1) rfl, Ps.cellsL (m := 1) rfl, Ps.cellsOL (m := 1) rfl]
    have hfl := tab_flat (s := s) (order := order) (a := a) (b := b) (by omega) i2 fun p q g1 g2 => i3 p q g1 g2 (Nat.zero_le _)
    subst hfl
    refine Tr.fin2 10 (by simp (disch := first | assumption | omega) only [free_upd, free_T hb]) (by simp only [go_sem, push_cast, and_pos, Le_updF]; rfl) (tabG_len _ _ _ _).symm ?_
    refine vq_conv pok (E := ((Env.base _).add 120 _ W120_ok)) (PL := []) (by kernel_rfl) ?_
    simp (maxSteps := 2000000) (disch := first | assumption | (refine asm_intro ?_; assumption) | exact Nat.le_add_right _ _ | exact Nat.le_refl _ | omega | (simp (disch := first | exact Nat.le_add_right _ _ | omega) only [Le_upd hb, Le_app hb, Le_rfl, free_T hb, free_upd]; done) | fail) only [go_sem, push_cast, and_pos, Le_updF, Le_upd hb, free_T hb, Ps.nil, Ps.fldL (m := 1) rfl, Ps.ldL (m := 1) rfl, Ps.ld0L (m := 1) rfl, Ps.cellsL (m := 1) rfl, Ps.cellsOL (m := 1) rfl]
  | succ i =>
    have ci : (i : Int) + 1 - 1 = i := by omega
    simp (maxSteps := 2000000) (disch := first | assumption | (refine asm_intro ?_; assumption) | exact Nat.le_add_right _ _ | exact Nat.le_refl _ | omega | (simp (disch := first | exact Nat.le_add_right _ _ | omega) only [Le_upd hb, Le_app hb, Le_rfl, free_T hb, free_upd]; done) | fail) only [go_sem, push_cast, and_pos, Le_updF, Le_upd hb, free_T hb, Ps.nil, Ps.fldL (m := 1) rfl, Ps.ldL (m := 1) rfl, Ps.ld0L (m := 1) rfl, Ps.cellsL (m := 1) rfl, Ps.cellsOL (m := 1) rfl, ci]
    refine tr_st (X := Nat × List Value) (fun y => y.1 ≤ b.length ∧ y.2.length = a.length * b.length ∧ ∀ p q : Nat, p < a.length → q < b.length → (i < p ∨ (p = i ∧ y.1 ≤ q)) → y.2[p * b.length + q]? = some (.bool (gt s order a b p q))) (fun y => y.1) (fun y => [(0, ps), (1, lst order), (2, lst a), (3, lst b), (9, .int .i64 b.length), (10, .slice (some ⟨Bd, 0, some 1⟩) (a.length * b.length) (a.length * b.length + 1)), (11, .int .i64 i), (12, .int .i64 ((y.1 : Int) - 1))]) (fun y => upd H Bd (some ⟨y.2, true⟩)) (b.length, L) (⟨Nat.le_refl _, i2, fun p q g1 g2 g3 => i3 p q g1 g2 (by omega)⟩) (by simp only [go_sem, push_cast, and_pos, Le_updF, ci]; all_goals (try simp only [Value.int.injEq, Value.slice.injEq, true_and, and_true]) <;> all_goals (try (first | trivial | omega | grind))) (by first | exact Le.refl _ | simp (disch := first | assumption | omega) only [go_sem, push_cast, and_pos, Le_updF, Le_rfl, Le_upd2, ci]) ?_
    intro y By hIy hBy hby Fy hFy
    refine vq_conv pok (E := ((Env.base _).add 120 _ W120_ok)) (PL := []) (by kernel_rfl) ?_
    obtain ⟨c, L2⟩ := y
    obtain ⟨k1, k2, k3⟩ := hIy
    simp only at k1 k2 k3 hby
    cases c with
    | zero =>
      simp (maxSteps := 2000000) (disch := first | assumption | (refine asm_intro ?_; assumption) | exact Nat.le_add_right _ _ | exact Nat.le_refl _ | omega | (simp (disch := first | exact Nat.le_add_right _ _ | omega) only [Le_upd hb, Le_app hb, Le_rfl, free_T hb, free_upd]; done) | fail) only [go_sem, push_cast, and_pos, Le_updF, Le_upd hb, free_T hb, Ps.nil, Ps.fldL (m := 1) rfl, Ps.ldL (m := 1) rfl, Ps.ld0L (m := 1) rfl, Ps.cellsL (m := 1) rfl, Ps.cellsOL (m := 1) rfl]
      refine hFx (i, L2) _ _ _ ?_ ?_ (by first | exact Le.refl _ | simp (disch := first | assumption | omega | (simp (disch := omega) only [free_upd, free_T hb]; done)) only [go_sem, push_cast, and_pos, Le_updF, Le_rfl, Le_upd2, free_upd, free_T hb]) (by simp only [go_sem, push_cast, and_pos, Le_updF]) (by simp only [go_sem, push_cast, and_pos, Le_updF]; all_goals (try simp only [Value.int.injEq, Value.slice.injEq, true_and, and_true]) <;> all_goals (try (first | trivial | omega | grind)))
      · show i < i + 1
        omega
      · exact ⟨by omega, k2, fun p q g1 g2 g3 => k3 p q g1 g2 (by omega)⟩
    | succ j =>
      have cj : (j : Int) + 1 - 1 = j := by omega
      have m1 := mul_at (show i < a.length by omega) (show j < b.length by omega)
      have c3 : ((i : Int) * b.length + j).toNat = i * b.length + j := by omega
      have ht : tabOK s order a b i j L2 := fun p q g1 g2 g3 => k3 p q g1 g2 (by omega)
      simp (maxSteps := 2000000) (disch := first | assumption | (refine asm_intro ?_; assumption) | exact Nat.le_add_right _ _ | exact Nat.le_refl _ | omega | (simp (disch := first | exact Nat.le_add_right _ _ | omega) only [Le_upd hb, Le_app hb, Le_rfl, free_T hb, free_upd]; done) | fail) only [go_sem, push_cast, and_pos, Le_updF, Le_upd hb, free_T hb, Ps.nil, Ps.fldL (m := 1) rfl, Ps.ldL (m := 1) rfl, Ps.ld0L (m := 1) rfl, Ps.cellsL (m := 1) rfl, Ps.cellsOL (m := 1) rfl, ci, cj, c3, h1, h2, h3, h4, h5, n1, n2, p1, p2, ht, k2]
      refine hFy (j, L2.set (i * b.length + j) (.bool (gt s order a b i j))) _ _ _ ?_ ?_ (by first | exact Le.refl _ | simp (disch := first | assumption | omega | (simp (disch := omega) only [free_upd, free_T hb]; done)) only [go_sem, push_cast, and_pos, Le_updF, Le_rfl, Le_upd2, free_upd, free_T hb]) (by simp only [go_sem, push_cast, and_pos, Le_updF]) (by simp only [go_sem, push_cast, and_pos, Le_updF]; all_goals (try simp only [Value.int.injEq, Value.slice.injEq, true_and, and_true]) <;> all_goals (try (first | trivial | omega | grind)))
      · show j < j + 1
        omega
      · exact ⟨by omega, by simpa using k2, fun p q g1 g2 g3 => tab_set (by omega) (by omega) k2 ht p q g1 g2 g3⟩
def V72 : Trans := fun args H Bd K => ∃ (s : GSignature) (order : List Int) (a : List Int) (b : List Int), args = [.agg (enc (s)).toArray, lst (order), lst (a), lst (b)] ∧ (((sm s ∧ sm order ∧ sm a ∧ sm b ∧ sigF s = 0) ∧ (nodes s a ∧ nodes s b ∧ places s a ∧ places s b) ∧ (1 ≤ a.length ∧ a.length ≤ 24 ∧ 1 ≤ b.length ∧ b.length ≤ 24)) ∧ K (.bool (gt s order a b 0 0)) H Bd)
@[go_sem ↓] theorem V72_eq (s_symbols : List GSymbol) (order : List Int) (a : List Int) (b : List Int) (H : AH) (Bd : Nat) (K : Value → AH → Nat → Prop) : V72 [.agg #[lst (s_symbols)], lst (order), lst (a), lst (b)] H Bd K = (((sm (GSignature.mk s_symbols) ∧ sm order ∧ sm a ∧ sm b ∧ sigF (GSignature.mk s_symbols) = 0) ∧ (nodes (GSignature.mk s_symbols) a ∧ nodes (GSignature.mk s_symbols) b ∧ places (GSignature.mk s_symbols) a ∧ places (GSignature.mk s_symbols) b) ∧ (1 ≤ a.length ∧ a.length ≤ 24 ∧ 1 ≤ b.length ∧ b.length ≤ 24)) ∧ K (.bool (gt (GSignature.mk s_symbols) order a b 0 0)) H Bd) := by
  refine propext ⟨fun h => ?_, fun h => ⟨_, _, _, _, rfl, h⟩⟩
  obtain ⟨s', order', a', b', e, h⟩ := h
  obtain ⟨ssymbols'⟩ := s'
  skip
  skip
  skip
  simp only [enc_GSignature, enc_int, enc_str, enc_list, enc_bool, enc_byte, List.cons.injEq, Value.agg.injEq, toArr_inj, Value.int.injEq, Value.bool.injEq, Value.string.injEq, Value.slice.injEq, Value.func.injEq, Value.pointer.injEq, Option.some.injEq, Addr.mk.injEq, lst_inj, true_and, and_true] at e
  obtain ⟨rfl, rfl, rfl, rfl⟩ := e
  exact h
def W72 : Trans := fun args H Bd K => ∃ (ps vorder va vb : Value), args = [ps, vorder, va, vb] ∧ Yld (cellsAt H 1 ps) fun cs => callW V72 [.agg cs.toArray, vorder, va, vb] H Bd K
@[go_sem ↓] theorem W72_eq (ps vorder va vb : Value) (H : AH) (Bd : Nat) (K : Value → AH → Nat → Prop) : W72 [ps, vorder, va, vb] H Bd K = (Yld (cellsAt H 1 ps) fun cs => callW V72 (idS [.agg cs.toArray, vorder, va, vb]) H Bd K) := by
  refine propext ⟨fun h => ?_, fun h => ⟨_, _, _, _, rfl, h⟩⟩
  obtain ⟨ps', vorder', va', vb', e, h⟩ := h
  simp only [List.cons.injEq, and_true] at e
  obtain ⟨rfl, rfl, rfl, rfl⟩ := e
  exact h
theorem W72_ok : OK 72 W72 := by
  rintro args H Bd K ⟨ps, vorder, va, vb, rfl, cs, es, h⟩
  obtain ⟨s, order, a, b, e, hpre, hK⟩ := h
  simp only [List.cons.injEq, and_true] at e
  obtain ⟨Es, rfl, rfl, rfl⟩ := e
  obtain rfl := agg_inj Es
  refine fn_pure pok ((Env.base _).add 102 _ W102_ok) [] _ hK Tryz.func72 rfl (rs := [.tmp 8]) rfl Tryz.ntmps72 (by simp) Tryz.call72 (by kernel_rfl) (fun ha hb => .bool _) (fun hb ha => ?_)
  have Ps := cellsAt_out es (NB.vpok (ha ps (by simp)))
  simp only [enc_GSignature] at Ps
  obtain ⟨⟨h1, h2, h3, h4, h5⟩, ⟨n1, n2, p1, p2⟩, ⟨l1, l2, l3, l4⟩⟩ := hpre
  have m1 := mul_at (show 0 < a.length by omega) (show 0 < b.length by omega)
  have e1 : (tabG s order a b)[0]? = some (gt s order a b 0 0) := by
    unfold tabG
    rw [List.getElem?_map, List.getElem?_range (by omega)]
    simp
  have hl := tabG_len s order a b
  simp (maxSteps := 2000000) (disch := first | assumption | (refine asm_intro ?_; assumption) | exact Nat.le_add_right _ _ | exact Nat.le_refl _ | omega | (simp (disch := first | exact Nat.le_add_right _ _ | omega) only [Le_upd hb, Le_app hb, Le_rfl, free_T hb, free_upd]; done) | fail) only [go_sem, push_cast, and_pos, Le_updF, Le_upd hb, free_T hb, Ps.nil, Ps.fldL (m := 1) rfl, Ps.ldL (m := 1) rfl, Ps.ld0L (m := 1) rfl, Ps.cellsL (m := 1) rfl, Ps.cellsOL (m := 1) rfl, h1, h2, h3, h4, h5, n1, n2, p1, p2, e1]
def V39 : Trans := fun args H Bd K => ∃ (s : GSignature) (order : List Int) (l : List GEquation), args = [.agg (enc (s)).toArray, lst (order), lst (l)] ∧ ((sm s ∧ sm order ∧ sm l ∧ sigF s = 0 ∧ rulesG s l = 0) ∧ K (.bool (fallsB s order l)) H Bd)
@[go_sem ↓] theorem V39_eq (s_symbols : List GSymbol) (order : List Int) (l : List GEquation) (H : AH) (Bd : Nat) (K : Value → AH → Nat → Prop) : V39 [.agg #[lst (s_symbols)], lst (order), lst (l)] H Bd K = ((sm (GSignature.mk s_symbols) ∧ sm order ∧ sm l ∧ sigF (GSignature.mk s_symbols) = 0 ∧ rulesG (GSignature.mk s_symbols) l = 0) ∧ K (.bool (fallsB (GSignature.mk s_symbols) order l)) H Bd) := by
  refine propext ⟨fun h => ?_, fun h => ⟨_, _, _, rfl, h⟩⟩
  obtain ⟨s', order', l', e, h⟩ := h
  obtain ⟨ssymbols'⟩ := s'
  skip
  skip
  simp only [enc_GSignature, enc_int, enc_str, enc_list, enc_bool, enc_byte, List.cons.injEq, Value.agg.injEq, toArr_inj, Value.int.injEq, Value.bool.injEq, Value.string.injEq, Value.slice.injEq, Value.func.injEq, Value.pointer.injEq, Option.some.injEq, Addr.mk.injEq, lst_inj, true_and, and_true] at e
  obtain ⟨rfl, rfl, rfl⟩ := e
  exact h
def W39 : Trans := fun args H Bd K => ∃ (ps vorder vl : Value), args = [ps, vorder, vl] ∧ Yld (cellsAt H 1 ps) fun cs => callW V39 [.agg cs.toArray, vorder, vl] H Bd K
@[go_sem ↓] theorem W39_eq (ps vorder vl : Value) (H : AH) (Bd : Nat) (K : Value → AH → Nat → Prop) : W39 [ps, vorder, vl] H Bd K = (Yld (cellsAt H 1 ps) fun cs => callW V39 (idS [.agg cs.toArray, vorder, vl]) H Bd K) := by
  refine propext ⟨fun h => ?_, fun h => ⟨_, _, _, rfl, h⟩⟩
  obtain ⟨ps', vorder', vl', e, h⟩ := h
  simp only [List.cons.injEq, and_true] at e
  obtain ⟨rfl, rfl, rfl⟩ := e
  exact h
set_option maxHeartbeats 2000000 in
theorem W39_ok : OK 39 W39 := by
  rintro args H Bd K ⟨ps, vorder, vl, rfl, cs, es, h⟩
  obtain ⟨s, order, l, e, hpre, hK⟩ := h
  simp only [List.cons.injEq, and_true] at e
  obtain ⟨Es, rfl, rfl⟩ := e
  obtain rfl := agg_inj Es
  refine fn_pure pok ((Env.base _).add 72 _ W72_ok) [(4, [0,1,2,3,4,5,6,7,8,9,10,11,12,13], [⟨0, [], []⟩, ⟨1, [], []⟩, ⟨2, [], []⟩, ⟨3, [], []⟩, ⟨4, [], []⟩, ⟨5, [], []⟩, ⟨6, [], []⟩, ⟨7, [], []⟩, ⟨8, [], []⟩, ⟨9, [], []⟩, ⟨10, [], []⟩, ⟨11, [], []⟩, ⟨12, [], []⟩, ⟨13, [], []⟩], .nil)] _ hK Tryz.func39 rfl (rs := [.tmp 6]) rfl Tryz.ntmps39 (by simp) Tryz.call39 (by kernel_rfl) (fun ha hb => .bool _) (fun hb ha => ?_)
  have Ps := cellsAt_out es (NB.vpok (ha ps (by simp)))
  simp only [enc_GSignature] at Ps
  obtain ⟨h1, h2, h3, h4, h5⟩ := hpre
  have hok := (rulesG_zero h5).2
  have hlt2 := sm_len h3
  simp (maxSteps := 2000000) (disch := first | assumption | (refine asm_intro ?_; assumption) | exact Nat.le_add_right _ _ | exact Nat.le_refl _ | omega | (simp (disch := first | exact Nat.le_add_right _ _ | omega) only [Le_upd hb, Le_app hb, Le_rfl, free_T hb, free_upd]; done) | fail) only [go_sem, push_cast, and_pos, Le_updF, Le_upd hb, free_T hb, Ps.nil, Ps.fldL (m := 1) rfl, Ps.ldL (m := 1) rfl, Ps.ld0L (m := 1) rfl, Ps.cellsL (m := 1) rfl, Ps.cellsOL (m := 1) rfl]
  refine tr_for (fun i => ∀ j, j < i → ∀ x, l[j]? = some x → gt s order x.left x.right 0 0 = true) (l.length) (fun i => [(0, ps), (1, lst order), (2, lst l), (7, .int .i64 i)]) (fun j hj => absurd hj (Nat.not_lt_zero _)) (by simp only [go_sem, push_cast, and_pos, Le_updF]) ?_
  intro i Bi hIi hii hBi
  refine vq_conv pok (E := ((Env.base _).add 72 _ W72_ok)) (PL := [(4, [0,1,2,3,4,5,6,7,8,9,10,11,12,13], [⟨0, [], []⟩, ⟨1, [], []⟩, ⟨2, [], []⟩, ⟨3, [], []⟩, ⟨4, [], []⟩, ⟨5, [], []⟩, ⟨6, [], []⟩, ⟨7, [], []⟩, ⟨8, [], []⟩, ⟨9, [], []⟩, ⟨10, [], []⟩, ⟨11, [], []⟩, ⟨12, [], []⟩, ⟨13, [], []⟩], .nil)]) (by kernel_rfl) ?_
  rcases Nat.lt_or_ge i (l.length) with hlti | hgei
  · have e1 : l[i]? = some l[i] := List.getElem?_eq_getElem hlti
    have h6 := sm_mem h3 (List.getElem_mem hlti)
    simp only [sm_GEquation] at h6
    have g1 := h6.1
    have g2 := h6.2
    have h7 := hok _ (List.getElem_mem hlti)
    have n1 := h7.1.nodes
    have n2 := h7.2.1.nodes
    have p1 := term_places h7.1
    have p2 := term_places h7.2.1
    have l1 := h7.1.len
    have l2 := h7.2.1.len
    simp (maxSteps := 2000000) (disch := first | assumption | (refine asm_intro ?_; assumption) | exact Nat.le_add_right _ _ | exact Nat.le_refl _ | omega | (simp (disch := first | exact Nat.le_add_right _ _ | omega) only [Le_upd hb, Le_app hb, Le_rfl, free_T hb, free_upd]; done) | fail) only [go_sem, push_cast, and_pos, Le_updF, Le_upd hb, free_T hb, Ps.nil, Ps.fldL (m := 1) rfl, Ps.ldL (m := 1) rfl, Ps.ld0L (m := 1) rfl, Ps.cellsL (m := 1) rfl, Ps.cellsOL (m := 1) rfl, e1, h1, h2, g1, g2, h4, n1, n2, p1, p2]
    refine ⟨fun h j hj x hx => ?_, fun h => ?_⟩
    · by_cases e : j = i
      · subst e; rw [e1] at hx; cases hx; simpa using h
      · exact hIi j (by omega) x hx
    · exact (all_no (List.getElem_mem hlti) (by simpa using h)).symm
  · simp (maxSteps := 2000000) (disch := first | assumption | (refine asm_intro ?_; assumption) | exact Nat.le_add_right _ _ | exact Nat.le_refl _ | omega | (simp (disch := first | exact Nat.le_add_right _ _ | omega) only [Le_upd hb, Le_app hb, Le_rfl, free_T hb, free_upd]; done) | fail) only [go_sem, push_cast, and_pos, Le_updF, Le_upd hb, free_T hb, Ps.nil, Ps.fldL (m := 1) rfl, Ps.ldL (m := 1) rfl, Ps.ld0L (m := 1) rfl, Ps.cellsL (m := 1) rfl, Ps.cellsOL (m := 1) rfl]
    refine vq_conv pok (E := ((Env.base _).add 72 _ W72_ok)) (PL := [(4, [0,1,2,3,4,5,6,7,8,9,10,11,12,13], [⟨0, [], []⟩, ⟨1, [], []⟩, ⟨2, [], []⟩, ⟨3, [], []⟩, ⟨4, [], []⟩, ⟨5, [], []⟩, ⟨6, [], []⟩, ⟨7, [], []⟩, ⟨8, [], []⟩, ⟨9, [], []⟩, ⟨10, [], []⟩, ⟨11, [], []⟩, ⟨12, [], []⟩, ⟨13, [], []⟩], .nil)]) (by kernel_rfl) ?_
    simp (maxSteps := 2000000) (disch := first | assumption | (refine asm_intro ?_; assumption) | exact Nat.le_add_right _ _ | exact Nat.le_refl _ | omega | (simp (disch := first | exact Nat.le_add_right _ _ | omega) only [Le_upd hb, Le_app hb, Le_rfl, free_T hb, free_upd]; done) | fail) only [go_sem, push_cast, and_pos, Le_updF, Le_upd hb, free_T hb, Ps.nil, Ps.fldL (m := 1) rfl, Ps.ldL (m := 1) rfl, Ps.ld0L (m := 1) rfl, Ps.cellsL (m := 1) rfl, Ps.cellsOL (m := 1) rfl]
    exact (all_yes fun x hx => by
      obtain ⟨j, hj, rfl⟩ := List.getElem_of_mem hx
      exact hIi j (by omega) _ (List.getElem?_eq_getElem hj)).symm
def V15 : Trans := fun args H Bd K => ∃ (s : GSignature) (x : GTheory), args = [.agg (enc (s)).toArray, .agg (enc (x)).toArray] ∧ ((sm s ∧ sm x ∧ rg x ∧ sigF s = 0) ∧ K (.int .i64 (thG s x)) H Bd)
@[go_sem ↓] theorem V15_eq (s_symbols : List GSymbol) (x_order : List Int) (x_equations : List GEquation) (x_rules : List GEquation) (H : AH) (Bd : Nat) (K : Value → AH → Nat → Prop) : V15 [.agg #[lst (s_symbols)], .agg #[lst (x_order), lst (x_equations), lst (x_rules)]] H Bd K = ((sm (GSignature.mk s_symbols) ∧ sm (GTheory.mk x_order x_equations x_rules) ∧ rg (GTheory.mk x_order x_equations x_rules) ∧ sigF (GSignature.mk s_symbols) = 0) ∧ K (.int .i64 (thG (GSignature.mk s_symbols) (GTheory.mk x_order x_equations x_rules))) H Bd) := by
  refine propext ⟨fun h => ?_, fun h => ⟨_, _, rfl, h⟩⟩
  obtain ⟨s', x', e, h⟩ := h
  obtain ⟨ssymbols'⟩ := s'
  obtain ⟨xorder', xequations', xrules'⟩ := x'
  simp only [enc_GSignature, enc_GTheory, enc_int, enc_str, enc_list, enc_bool, enc_byte, List.cons.injEq, Value.agg.injEq, toArr_inj, Value.int.injEq, Value.bool.injEq, Value.string.injEq, Value.slice.injEq, Value.func.injEq, Value.pointer.injEq, Option.some.injEq, Addr.mk.injEq, lst_inj, true_and, and_true] at e
  obtain ⟨rfl, ⟨rfl, rfl, rfl⟩⟩ := e
  exact h
def W15 : Trans := fun args H Bd K => ∃ (ps px : Value), args = [ps, px] ∧ Yld (cellsAt H 1 ps) fun cs => Yld (cellsAt H 3 px) fun cx => callW V15 [.agg cs.toArray, .agg cx.toArray] H Bd K
@[go_sem ↓] theorem W15_eq (ps px : Value) (H : AH) (Bd : Nat) (K : Value → AH → Nat → Prop) : W15 [ps, px] H Bd K = (Yld (cellsAt H 1 ps) fun cs => Yld (cellsAt H 3 px) fun cx => callW V15 (idS [.agg cs.toArray, .agg cx.toArray]) H Bd K) := by
  refine propext ⟨fun h => ?_, fun h => ⟨_, _, rfl, h⟩⟩
  obtain ⟨ps', px', e, h⟩ := h
  simp only [List.cons.injEq, and_true] at e
  obtain ⟨rfl, rfl⟩ := e
  exact h
set_option maxHeartbeats 2000000 in
theorem W15_ok : OK 15 W15 := by
  rintro args H Bd K ⟨ps, px, rfl, cs, es, cx, ex, h⟩
  obtain ⟨s, x, e, hpre, hK⟩ := h
  simp only [List.cons.injEq, and_true] at e
  obtain ⟨Es, Ex⟩ := e
  obtain rfl := agg_inj Es
  obtain rfl := agg_inj Ex
  refine fn_pure pok (((((Env.base _).add 36 _ W36_ok).add 37 _ W37_ok).add 38 _ W38_ok).add 39 _ W39_ok) [(10, [0,1,2,3,4,5,6,7,8,9,10], [⟨0, [], []⟩, ⟨1, [], []⟩, ⟨2, [], []⟩, ⟨3, [], []⟩, ⟨4, [], []⟩, ⟨5, [], []⟩, ⟨6, [], []⟩, ⟨7, [], []⟩, ⟨8, [], []⟩, ⟨9, [], []⟩, ⟨10, [], []⟩], .nil)] _ hK Tryz.func15 rfl (rs := [.tmp 4]) rfl Tryz.ntmps15 (by simp) Tryz.call15 (by kernel_rfl) (fun ha hb => .int _ _) (fun hb ha => ?_)
  have Ps := cellsAt_out es (NB.vpok (ha ps (by simp)))
  simp only [enc_GSignature] at Ps
  have Px := cellsAt_out ex (NB.vpok (ha px (by simp)))
  simp only [enc_GSignature, enc_GTheory] at Px
  obtain ⟨h1, h2, h3, h4⟩ := hpre
  simp only [sm_GTheory] at h2
  have h5 : rg x.order := h3.1
  have h6 : rg x.equations := h3.2.1
  have h7 : rg x.rules := h3.2.2
  simp (maxSteps := 2000000) (disch := first | assumption | (refine asm_intro ?_; assumption) | exact Nat.le_add_right _ _ | exact Nat.le_refl _ | omega | (simp (disch := first | exact Nat.le_add_right _ _ | omega) only [Le_upd hb, Le_app hb, Le_rfl, free_T hb, free_upd]; done) | fail) only [go_sem, push_cast, and_pos, Le_updF, Le_upd hb, free_T hb, Ps.nil, Ps.fldL (m := 1) rfl, Ps.ldL (m := 1) rfl, Ps.ld0L (m := 1) rfl, Ps.cellsL (m := 1) rfl, Ps.cellsOL (m := 1) rfl, Px.nil, Px.fldL (m := 3) rfl, Px.ldL (m := 3) rfl, Px.ld0L (m := 3) rfl, Px.cellsL (m := 3) rfl, Px.cellsOL (m := 3) rfl, h1, h2, h5, h6, h7, h4]
  unfold thG
  all_goals first | done | trivial | ((try simp only [Cnp, Imp]); grind)
def W74 : Trans := fun args H Bd K => ∃ (t : List Int), args = [lst (t)] ∧ ((sm t) ∧ K (.bool (t.all (fun n => decide (0 ≤ n)))) H Bd)
@[go_sem ↓] theorem W74_eq (t : List Int) (H : AH) (Bd : Nat) (K : Value → AH → Nat → Prop) : W74 [lst (t)] H Bd K = ((sm t) ∧ K (.bool (t.all (fun n => decide (0 ≤ n)))) H Bd) := by
  refine propext ⟨fun h => ?_, fun h => ⟨_, rfl, h⟩⟩
  obtain ⟨t', e, h⟩ := h
  skip
  simp only [List.cons.injEq, Value.agg.injEq, toArr_inj, Value.int.injEq, Value.bool.injEq, Value.string.injEq, Value.slice.injEq, Value.func.injEq, Value.pointer.injEq, Option.some.injEq, Addr.mk.injEq, lst_inj, true_and, and_true] at e
  obtain rfl := e
  exact h
theorem W74_ok : OK 74 W74 := by
  rintro args H Bd K ⟨t, rfl, hpre, hK⟩
  refine fn_pure pok (Env.base _) [] _ hK Tryz.func74 rfl (rs := [.tmp 2]) rfl Tryz.ntmps74 (by simp) Tryz.call74 (by kernel_rfl) (fun ha hb => .bool _) (fun hb ha => ?_)
  have hlt2 := sm_len hpre
  simp (maxSteps := 2000000) (disch := first | assumption | (refine asm_intro ?_; assumption) | exact Nat.le_add_right _ _ | exact Nat.le_refl _ | omega | (simp (disch := first | exact Nat.le_add_right _ _ | omega) only [Le_upd hb, Le_app hb, Le_rfl, free_T hb, free_upd]; done) | fail) only [go_sem, push_cast, and_pos, Le_updF, Le_upd hb, free_T hb]
  refine tr_for (fun i => ∀ j, j < i → ∀ n, t[j]? = some n → 0 ≤ n) (t.length) (fun i => [(0, lst t), (3, .int .i64 i)]) (fun j hj => absurd hj (Nat.not_lt_zero _)) (by simp only [go_sem, push_cast, and_pos, Le_updF]) ?_
  intro i Bi hIi hii hBi
  refine vq_conv pok (E := (Env.base _)) (PL := []) (by kernel_rfl) ?_
  rcases Nat.lt_or_ge i (t.length) with hlti | hgei
  · have e1 : t[i]? = some t[i] := List.getElem?_eq_getElem hlti
    simp (maxSteps := 2000000) (disch := first | assumption | (refine asm_intro ?_; assumption) | exact Nat.le_add_right _ _ | exact Nat.le_refl _ | omega | (simp (disch := first | exact Nat.le_add_right _ _ | omega) only [Le_upd hb, Le_app hb, Le_rfl, free_T hb, free_upd]; done) | fail) only [go_sem, push_cast, and_pos, Le_updF, Le_upd hb, free_T hb, e1]
    refine ⟨fun h => ?_, fun h j hj n hn => ?_⟩
    · exact (all_no (List.getElem_mem hlti) (by simpa using h)).symm
    · by_cases e : j = i
      · subst e; rw [e1] at hn; cases hn; omega
      · exact hIi j (by omega) n hn
  · simp (maxSteps := 2000000) (disch := first | assumption | (refine asm_intro ?_; assumption) | exact Nat.le_add_right _ _ | exact Nat.le_refl _ | omega | (simp (disch := first | exact Nat.le_add_right _ _ | omega) only [Le_upd hb, Le_app hb, Le_rfl, free_T hb, free_upd]; done) | fail) only [go_sem, push_cast, and_pos, Le_updF, Le_upd hb, free_T hb]
    refine vq_conv pok (E := (Env.base _)) (PL := []) (by kernel_rfl) ?_
    simp (maxSteps := 2000000) (disch := first | assumption | (refine asm_intro ?_; assumption) | exact Nat.le_add_right _ _ | exact Nat.le_refl _ | omega | (simp (disch := first | exact Nat.le_add_right _ _ | omega) only [Le_upd hb, Le_app hb, Le_rfl, free_T hb, free_upd]; done) | fail) only [go_sem, push_cast, and_pos, Le_updF, Le_upd hb, free_T hb]
    exact (all_yes fun x hx => by
      obtain ⟨j, hj, rfl⟩ := List.getElem_of_mem hx
      have := hIi j (by omega) _ (List.getElem?_eq_getElem hj)
      simpa using this).symm
def V40 : Trans := fun args H Bd K => ∃ (s : GSignature) (t : List Int), args = [.agg (enc (s)).toArray, lst (t)] ∧ ((sm s ∧ sm t ∧ rg t ∧ sigF s = 0) ∧ K (.int .i64 (groundG s t)) H Bd)
@[go_sem ↓] theorem V40_eq (s_symbols : List GSymbol) (t : List Int) (H : AH) (Bd : Nat) (K : Value → AH → Nat → Prop) : V40 [.agg #[lst (s_symbols)], lst (t)] H Bd K = ((sm (GSignature.mk s_symbols) ∧ sm t ∧ rg t ∧ sigF (GSignature.mk s_symbols) = 0) ∧ K (.int .i64 (groundG (GSignature.mk s_symbols) t)) H Bd) := by
  refine propext ⟨fun h => ?_, fun h => ⟨_, _, rfl, h⟩⟩
  obtain ⟨s', t', e, h⟩ := h
  obtain ⟨ssymbols'⟩ := s'
  skip
  simp only [enc_GSignature, enc_int, enc_str, enc_list, enc_bool, enc_byte, List.cons.injEq, Value.agg.injEq, toArr_inj, Value.int.injEq, Value.bool.injEq, Value.string.injEq, Value.slice.injEq, Value.func.injEq, Value.pointer.injEq, Option.some.injEq, Addr.mk.injEq, lst_inj, true_and, and_true] at e
  obtain ⟨rfl, rfl⟩ := e
  exact h
def W40 : Trans := fun args H Bd K => ∃ (ps vt : Value), args = [ps, vt] ∧ Yld (cellsAt H 1 ps) fun cs => callW V40 [.agg cs.toArray, vt] H Bd K
@[go_sem ↓] theorem W40_eq (ps vt : Value) (H : AH) (Bd : Nat) (K : Value → AH → Nat → Prop) : W40 [ps, vt] H Bd K = (Yld (cellsAt H 1 ps) fun cs => callW V40 (idS [.agg cs.toArray, vt]) H Bd K) := by
  refine propext ⟨fun h => ?_, fun h => ⟨_, _, rfl, h⟩⟩
  obtain ⟨ps', vt', e, h⟩ := h
  simp only [List.cons.injEq, and_true] at e
  obtain ⟨rfl, rfl⟩ := e
  exact h
theorem W40_ok : OK 40 W40 := by
  rintro args H Bd K ⟨ps, vt, rfl, cs, es, h⟩
  obtain ⟨s, t, e, hpre, hK⟩ := h
  simp only [List.cons.injEq, and_true] at e
  obtain ⟨Es, rfl⟩ := e
  obtain rfl := agg_inj Es
  refine fn_pure pok (((Env.base _).add 73 _ W73_ok).add 74 _ W74_ok) [] _ hK Tryz.func40 rfl (rs := [.tmp 4]) rfl Tryz.ntmps40 (by simp) Tryz.call40 (by kernel_rfl) (fun ha hb => .int _ _) (fun hb ha => ?_)
  have Ps := cellsAt_out es (NB.vpok (ha ps (by simp)))
  simp only [enc_GSignature] at Ps
  obtain ⟨h1, h2, h3, h4⟩ := hpre
  simp (maxSteps := 2000000) (disch := first | assumption | (refine asm_intro ?_; assumption) | exact Nat.le_add_right _ _ | exact Nat.le_refl _ | omega | (simp (disch := first | exact Nat.le_add_right _ _ | omega) only [Le_upd hb, Le_app hb, Le_rfl, free_T hb, free_upd]; done) | fail) only [go_sem, push_cast, and_pos, Le_updF, Le_upd hb, free_T hb, Ps.nil, Ps.fldL (m := 1) rfl, Ps.ldL (m := 1) rfl, Ps.ld0L (m := 1) rfl, Ps.cellsL (m := 1) rfl, Ps.cellsOL (m := 1) rfl, h1, h2, h3, h4]
  unfold groundG
  all_goals first | done | trivial | ((try simp only [Cnp, Imp]); grind)
def W41 : Trans := fun args H Bd K => ∃ (xs : List UInt8) (ys : List UInt8), args = [lst (xs), lst (ys)] ∧ ((sm xs ∧ sm ys) ∧ K (.int .i64 (Lib.compareBytes xs ys)) H Bd)
@[go_sem ↓] theorem W41_eq (xs : List UInt8) (ys : List UInt8) (H : AH) (Bd : Nat) (K : Value → AH → Nat → Prop) : W41 [lst (xs), lst (ys)] H Bd K = ((sm xs ∧ sm ys) ∧ K (.int .i64 (Lib.compareBytes xs ys)) H Bd) := by
  refine propext ⟨fun h => ?_, fun h => ⟨_, _, rfl, h⟩⟩
  obtain ⟨xs', ys', e, h⟩ := h
  skip
  skip
  simp only [List.cons.injEq, Value.agg.injEq, toArr_inj, Value.int.injEq, Value.bool.injEq, Value.string.injEq, Value.slice.injEq, Value.func.injEq, Value.pointer.injEq, Option.some.injEq, Addr.mk.injEq, lst_inj, true_and, and_true] at e
  obtain ⟨rfl, rfl⟩ := e
  exact h
set_option maxHeartbeats 2000000 in
theorem W41_ok : OK 41 W41 := by
  rintro args H Bd K ⟨xs, ys, rfl, hpre, hK⟩
  refine fn_pure pok (Env.base _) [(2, [], [], (.k 5 (.grp true 10 14 4 [11, 12, 13, 14] 15 none (.k 4 .nil) .nil))), (4, [0,1,2,3,4,5,6,7,8], [⟨0, [], []⟩, ⟨1, [], []⟩, ⟨2, [], []⟩, ⟨3, [], []⟩, ⟨4, [], []⟩, ⟨5, [], []⟩, ⟨6, [], []⟩, ⟨7, [], []⟩, ⟨8, [], []⟩], .nil), (6, [0,1,2,3,4,5,6,7,8], [⟨0, [], []⟩, ⟨1, [], []⟩, ⟨2, [], []⟩, ⟨3, [], []⟩, ⟨4, [], []⟩, ⟨5, [], []⟩, ⟨6, [], []⟩, ⟨7, [], []⟩, ⟨8, [], []⟩], .nil)] _ hK Tryz.func41 rfl (rs := [.tmp 4]) rfl Tryz.ntmps41 (by simp) Tryz.call41 (by kernel_rfl) (fun ha hb => .int _ _) (fun hb ha => ?_)
  obtain ⟨h1, h2⟩ := hpre
  have hl1 := sm_len h1
  have hl2 := sm_len h2
  simp (maxSteps := 2000000) (disch := first | assumption | (refine asm_intro ?_; assumption) | exact Nat.le_add_right _ _ | exact Nat.le_refl _ | omega | (simp (disch := first | exact Nat.le_add_right _ _ | omega) only [Le_upd hb, Le_app hb, Le_rfl, free_T hb, free_upd]; done) | fail) only [go_sem, push_cast, and_pos, Le_updF, Le_upd hb, free_T hb]
  refine tr_for (fun i => ∀ j, j < i → xs[j]? = ys[j]?) (min xs.length ys.length) (fun i => [(0, lst xs), (1, lst ys), (5, .int .i64 i)]) (fun j hj => absurd hj (Nat.not_lt_zero _)) (by simp only [go_sem, push_cast, and_pos, Le_updF]) ?_
  intro i Bi hIi hii hBi
  refine vq_conv pok (E := (Env.base _)) (PL := [(2, [], [], (.k 5 (.grp true 10 14 4 [11, 12, 13, 14] 15 none (.k 4 .nil) .nil))), (4, [0,1,2,3,4,5,6,7,8], [⟨0, [], []⟩, ⟨1, [], []⟩, ⟨2, [], []⟩, ⟨3, [], []⟩, ⟨4, [], []⟩, ⟨5, [], []⟩, ⟨6, [], []⟩, ⟨7, [], []⟩, ⟨8, [], []⟩], .nil), (6, [0,1,2,3,4,5,6,7,8], [⟨0, [], []⟩, ⟨1, [], []⟩, ⟨2, [], []⟩, ⟨3, [], []⟩, ⟨4, [], []⟩, ⟨5, [], []⟩, ⟨6, [], []⟩, ⟨7, [], []⟩, ⟨8, [], []⟩], .nil)]) (by kernel_rfl) ?_
  rcases Nat.lt_or_ge i (min xs.length ys.length) with hlti | hgei
  · have e1 : xs[i]? = some (xs[i]'(by omega)) := List.getElem?_eq_getElem _
    have e2 : ys[i]? = some (ys[i]'(by omega)) := List.getElem?_eq_getElem _
    simp (maxSteps := 2000000) (disch := first | assumption | (refine asm_intro ?_; assumption) | exact Nat.le_add_right _ _ | exact Nat.le_refl _ | omega | (simp (disch := first | exact Nat.le_add_right _ _ | omega) only [Le_upd hb, Le_app hb, Le_rfl, free_T hb, free_upd]; done) | fail) only [go_sem, push_cast, and_pos, Le_updF, Le_upd hb, free_T hb, e1, e2]
    have c1 : (xs[i] < ys[i]) ↔ (xs[i].toNat : Int) < ys[i].toNat := by rw [UInt8.lt_iff_toNat_lt]; omega
    have c2 : (ys[i] < xs[i]) ↔ (ys[i].toNat : Int) < xs[i].toNat := by rw [UInt8.lt_iff_toNat_lt]; omega
    refine ⟨fun h => (cmpB_lt hIi (by omega) (by omega) (c1.2 h)).symm, fun h3 => ⟨fun h => (cmpB_gt hIi (by omega) (by omega) (c2.2 h)).symm, fun h4 j hj => ?_⟩⟩
    by_cases e : j = i
    · subst e
      rw [e1, e2, UInt8.toNat_inj.1 (show xs[j].toNat = ys[j].toNat by omega)]
    · exact hIi j (by omega)
  · simp (maxSteps := 2000000) (disch := first | assumption | (refine asm_intro ?_; assumption) | exact Nat.le_add_right _ _ | exact Nat.le_refl _ | omega | (simp (disch := first | exact Nat.le_add_right _ _ | omega) only [Le_upd hb, Le_app hb, Le_rfl, free_T hb, free_upd]; done) | fail) only [go_sem, push_cast, and_pos, Le_updF, Le_upd hb, free_T hb]
    refine ⟨fun a1 a2 => absurd (show i < min xs.length ys.length by omega) (by omega), fun _ => ?_⟩
    refine vq_conv pok (E := (Env.base _)) (PL := [(2, [], [], (.k 5 (.grp true 10 14 4 [11, 12, 13, 14] 15 none (.k 4 .nil) .nil))), (4, [0,1,2,3,4,5,6,7,8], [⟨0, [], []⟩, ⟨1, [], []⟩, ⟨2, [], []⟩, ⟨3, [], []⟩, ⟨4, [], []⟩, ⟨5, [], []⟩, ⟨6, [], []⟩, ⟨7, [], []⟩, ⟨8, [], []⟩], .nil), (6, [0,1,2,3,4,5,6,7,8], [⟨0, [], []⟩, ⟨1, [], []⟩, ⟨2, [], []⟩, ⟨3, [], []⟩, ⟨4, [], []⟩, ⟨5, [], []⟩, ⟨6, [], []⟩, ⟨7, [], []⟩, ⟨8, [], []⟩], .nil)]) (by kernel_rfl) ?_
    simp (maxSteps := 2000000) (disch := first | assumption | (refine asm_intro ?_; assumption) | exact Nat.le_add_right _ _ | exact Nat.le_refl _ | omega | (simp (disch := first | exact Nat.le_add_right _ _ | omega) only [Le_upd hb, Le_app hb, Le_rfl, free_T hb, free_upd]; done) | fail) only [go_sem, push_cast, and_pos, Le_updF, Le_upd hb, free_T hb]
    have he := cmpB_end hIi (by omega)
    rw [he]
    all_goals first | done | trivial | ((try simp only [Cnp, Imp]); grind)
def W42 : Trans := fun args H Bd K => ∃ (t : List Int), args = [lst (t)] ∧ ((sm t ∧ t.length ≤ 1000000 ∧ smallN t) ∧ K (lst (packT t)) H Bd)
@[go_sem ↓] theorem W42_eq (t : List Int) (H : AH) (Bd : Nat) (K : Value → AH → Nat → Prop) : W42 [lst (t)] H Bd K = ((sm t ∧ t.length ≤ 1000000 ∧ smallN t) ∧ K (lst (packT t)) H Bd) := by
  refine propext ⟨fun h => ?_, fun h => ⟨_, rfl, h⟩⟩
  obtain ⟨t', e, h⟩ := h
  skip
  simp only [List.cons.injEq, Value.agg.injEq, toArr_inj, Value.int.injEq, Value.bool.injEq, Value.string.injEq, Value.slice.injEq, Value.func.injEq, Value.pointer.injEq, Option.some.injEq, Addr.mk.injEq, lst_inj, true_and, and_true] at e
  obtain rfl := e
  exact h
set_option maxHeartbeats 2000000 in
theorem W42_ok : OK 42 W42 := by
  rintro args H Bd K ⟨t, rfl, hpre, hK⟩
  refine fn_pure pok (Env.base _) [] _ hK Tryz.func42 rfl (rs := [.tmp 2]) rfl Tryz.ntmps42 (by simp) Tryz.call42 (by kernel_rfl) (fun ha hb => lst_nb _ _) (fun hb ha => ?_)
  obtain ⟨h1, h2, h3⟩ := hpre
  simp (maxSteps := 2000000) (disch := first | assumption | (refine asm_intro ?_; assumption) | exact Nat.le_add_right _ _ | exact Nat.le_refl _ | omega | (simp (disch := first | exact Nat.le_add_right _ _ | omega) only [Le_upd hb, Le_app hb, Le_rfl, free_T hb, free_upd]; done) | fail) only [go_sem, push_cast, and_pos, Le_updF, Le_upd hb, free_T hb]
  refine tr_acc (α := UInt8) (H0 := H) (B0 := Bd) (n0 := Bd) (t.length) (fun i => packT (t.take i)) (fun i out => [(0, lst t), (3, out), (4, .int .i64 i)]) (Nat.le_refl 1) ⟨by omega, by omega⟩ (by simp only [go_sem, push_cast, and_pos, Le_updF, List.take_zero, packT_nil]) (by simp (disch := first | assumption | omega) only [go_sem, push_cast, and_pos, Le_updF, flat_nil, List.take_zero, packT_nil]) ?_
  intro i ni ci Bi hii hci hni hmi hBi hbi
  refine vq_conv pok (E := (Env.base _)) (PL := []) (by kernel_rfl) ?_
  have hzi : (ci = 0) = False := eq_false (by omega)
  rcases Nat.lt_or_ge i (t.length) with hlti | hgei
  · have e1 : t[i]? = some t[i] := List.getElem?_eq_getElem hlti
    have hst : packT (t.take (i + 1)) = packT (t.take i) ++ [packN t[i]] := packT_take hlti
    have hl3 : (packT (t.take i)).length = i := by simp [packT]; omega
    have hr := h3 _ (List.getElem_mem hlti)
    by_cases hn : t[i] < 0
    · have hp := packN_neg hr.1 hn
      have hq : (31 - t[i]) % 256 = ((packN t[i]).toNat : Int) := by omega
      simp (maxSteps := 2000000) (disch := first | assumption | (refine asm_intro ?_; assumption) | exact Nat.le_add_right _ _ | exact Nat.le_refl _ | omega | (simp (disch := first | exact Nat.le_add_right _ _ | omega) only [Le_upd hb, Le_app hb, Le_rfl, free_T hb, free_upd]; done) | fail) only [go_sem, push_cast, and_pos, Le_updF, Le_upd hb, free_T hb, e1, hq, hn, hzi, hst, flat_append, flat_one]
      exact acc_end (by omega) (by omega) (by simp) rfl (by simp (disch := first | assumption | omega | (simp (disch := omega) only [free_upd, free_T hb]; done)) only [Le_upd2, Le_updF, Le_rfl, free_upd, free_T hb])
    · have hp := packN_pos (by omega) hr.2
      have hq : (t[i] + 1) % 256 = ((packN t[i]).toNat : Int) := by omega
      simp (maxSteps := 2000000) (disch := first | assumption | (refine asm_intro ?_; assumption) | exact Nat.le_add_right _ _ | exact Nat.le_refl _ | omega | (simp (disch := first | exact Nat.le_add_right _ _ | omega) only [Le_upd hb, Le_app hb, Le_rfl, free_T hb, free_upd]; done) | fail) only [go_sem, push_cast, and_pos, Le_updF, Le_upd hb, free_T hb, e1, hq, hn, hzi, hst, flat_append, flat_one]
      exact acc_end (by omega) (by omega) (by simp) rfl (by simp (disch := first | assumption | omega | (simp (disch := omega) only [free_upd, free_T hb]; done)) only [Le_upd2, Le_updF, Le_rfl, free_upd, free_T hb])
  · simp (maxSteps := 2000000) (disch := first | assumption | (refine asm_intro ?_; assumption) | exact Nat.le_add_right _ _ | exact Nat.le_refl _ | omega | (simp (disch := first | exact Nat.le_add_right _ _ | omega) only [Le_upd hb, Le_app hb, Le_rfl, free_T hb, free_upd]; done) | fail) only [go_sem, push_cast, and_pos, Le_updF, Le_upd hb, free_T hb]
    refine Tr.fin2 3 (by simp (disch := first | assumption | omega) only [free_upd, free_T hb]) (by simp only [go_sem, push_cast, and_pos, Le_updF]; rfl) rfl ?_
    refine vq_conv pok (E := (Env.base _)) (PL := []) (by kernel_rfl) ?_
    rw [List.take_of_length_le hgei]
    simp (maxSteps := 2000000) (disch := first | assumption | (refine asm_intro ?_; assumption) | exact Nat.le_add_right _ _ | exact Nat.le_refl _ | omega | (simp (disch := first | exact Nat.le_add_right _ _ | omega) only [Le_upd hb, Le_app hb, Le_rfl, free_T hb, free_upd]; done) | fail) only [go_sem, push_cast, and_pos, Le_updF, Le_upd hb, free_T hb]
def V16 : Trans := fun args H Bd K => ∃ (s : GSignature) (l : List GRecord), args = [.agg (enc (s)).toArray, lst (l)] ∧ ((sm s ∧ sm l ∧ rg l ∧ sigF s = 0) ∧ K (.int .i64 (bookRec s l)) H Bd)
@[go_sem ↓] theorem V16_eq (s_symbols : List GSymbol) (l : List GRecord) (H : AH) (Bd : Nat) (K : Value → AH → Nat → Prop) : V16 [.agg #[lst (s_symbols)], lst (l)] H Bd K = ((sm (GSignature.mk s_symbols) ∧ sm l ∧ rg l ∧ sigF (GSignature.mk s_symbols) = 0) ∧ K (.int .i64 (bookRec (GSignature.mk s_symbols) l)) H Bd) := by
  refine propext ⟨fun h => ?_, fun h => ⟨_, _, rfl, h⟩⟩
  obtain ⟨s', l', e, h⟩ := h
  obtain ⟨ssymbols'⟩ := s'
  skip
  simp only [enc_GSignature, enc_int, enc_str, enc_list, enc_bool, enc_byte, List.cons.injEq, Value.agg.injEq, toArr_inj, Value.int.injEq, Value.bool.injEq, Value.string.injEq, Value.slice.injEq, Value.func.injEq, Value.pointer.injEq, Option.some.injEq, Addr.mk.injEq, lst_inj, true_and, and_true] at e
  obtain ⟨rfl, rfl⟩ := e
  exact h
def W16 : Trans := fun args H Bd K => ∃ (ps vl : Value), args = [ps, vl] ∧ Yld (cellsAt H 1 ps) fun cs => callW V16 [.agg cs.toArray, vl] H Bd K
@[go_sem ↓] theorem W16_eq (ps vl : Value) (H : AH) (Bd : Nat) (K : Value → AH → Nat → Prop) : W16 [ps, vl] H Bd K = (Yld (cellsAt H 1 ps) fun cs => callW V16 (idS [.agg cs.toArray, vl]) H Bd K) := by
  refine propext ⟨fun h => ?_, fun h => ⟨_, _, rfl, h⟩⟩
  obtain ⟨ps', vl', e, h⟩ := h
  simp only [List.cons.injEq, and_true] at e
  obtain ⟨rfl, rfl⟩ := e
  exact h
set_option maxHeartbeats 2000000 in
theorem W16_ok : OK 16 W16 := by
  rintro args H Bd K ⟨ps, vl, rfl, cs, es, h⟩
  obtain ⟨s, l, e, hpre, hK⟩ := h
  simp only [List.cons.injEq, and_true] at e
  obtain ⟨Es, rfl⟩ := e
  obtain rfl := agg_inj Es
  refine fn_pure pok (((((Env.base _).add 40 _ W40_ok).add 14 _ W14_ok).add 41 _ W41_ok).add 42 _ W42_ok) [(14, [0,1,2,3,4,5,7,8,9,10,11,6,12,13,14], [⟨0, [], []⟩, ⟨1, [], []⟩, ⟨2, [], []⟩, ⟨3, [], []⟩, ⟨4, [], []⟩, ⟨5, [], []⟩, ⟨7, [], []⟩, ⟨8, [], []⟩, ⟨9, [], []⟩, ⟨10, [], []⟩, ⟨11, [], []⟩, ⟨6, [], [11]⟩, ⟨12, [], []⟩, ⟨13, [], []⟩, ⟨14, [], []⟩], .nil)] _ hK Tryz.func16 rfl (rs := [.tmp 4]) rfl Tryz.ntmps16 (by simp) Tryz.call16 (by kernel_rfl) (fun ha hb => .int _ _) (fun hb ha => ?_)
  have Ps := cellsAt_out es (NB.vpok (ha ps (by simp)))
  simp only [enc_GSignature] at Ps
  obtain ⟨h1, h2, h3, h4⟩ := hpre
  have hs := sig_ok h4
  have hlt2 := sm_len h2
  simp (maxSteps := 2000000) (disch := first | assumption | (refine asm_intro ?_; assumption) | exact Nat.le_add_right _ _ | exact Nat.le_refl _ | omega | (simp (disch := first | exact Nat.le_add_right _ _ | omega) only [Le_upd hb, Le_app hb, Le_rfl, free_T hb, free_upd]; done) | fail) only [go_sem, push_cast, and_pos, Le_updF, Le_upd hb, free_T hb, Ps.nil, Ps.fldL (m := 1) rfl, Ps.ldL (m := 1) rfl, Ps.ld0L (m := 1) rfl, Ps.cellsL (m := 1) rfl, Ps.cellsOL (m := 1) rfl]
  refine tr_for (fun i => ∀ j, j < i → ∀ x, l[j]? = some x → okG s x) (l.length) (fun i => [(0, ps), (1, lst l), (5, .int .i64 i)]) (fun j hj => absurd hj (Nat.not_lt_zero _)) (by simp only [go_sem, push_cast, and_pos, Le_updF]) ?_
  intro i Bi hIi hii hBi
  refine vq_conv pok (E := (((((Env.base _).add 40 _ W40_ok).add 14 _ W14_ok).add 41 _ W41_ok).add 42 _ W42_ok)) (PL := [(14, [0,1,2,3,4,5,7,8,9,10,11,6,12,13,14], [⟨0, [], []⟩, ⟨1, [], []⟩, ⟨2, [], []⟩, ⟨3, [], []⟩, ⟨4, [], []⟩, ⟨5, [], []⟩, ⟨7, [], []⟩, ⟨8, [], []⟩, ⟨9, [], []⟩, ⟨10, [], []⟩, ⟨11, [], []⟩, ⟨6, [], [11]⟩, ⟨12, [], []⟩, ⟨13, [], []⟩, ⟨14, [], []⟩], .nil)]) (by kernel_rfl) ?_
  rcases Nat.lt_or_ge i (l.length) with hlti | hgei
  · have e1 : l[i]? = some l[i] := List.getElem?_eq_getElem hlti
    have h5 := sm_mem h2 (List.getElem_mem hlti)
    simp only [sm_GRecord] at h5
    have h6 := h3 _ (List.getElem_mem hlti)
    have h7 := h5.1
    have h8 : rg l[i].term := h6.1
    have h9 : R64 l[i].value := h6.2
    simp (maxSteps := 2000000) (disch := first | assumption | (refine asm_intro ?_; assumption) | exact Nat.le_add_right _ _ | exact Nat.le_refl _ | omega | (simp (disch := first | exact Nat.le_add_right _ _ | omega) only [Le_upd hb, Le_app hb, Le_rfl, free_T hb, free_upd]; done) | fail) only [go_sem, push_cast, and_pos, Le_updF, Le_upd hb, free_T hb, Ps.nil, Ps.fldL (m := 1) rfl, Ps.ldL (m := 1) rfl, Ps.ld0L (m := 1) rfl, Ps.cellsL (m := 1) rfl, Ps.cellsOL (m := 1) rfl, e1, h1, h7, h8, h4]
    have hhit : recOne s l[i] ≠ 0 → bookRec s l = recOne s l[i] := fun h => by
      have hf := firstF_hit (f := recOne s) e1 hIi h
      unfold bookRec
      rw [hf, if_pos h]
    refine ⟨fun a1 => ⟨fun a2 => ?_, fun a2 => ⟨fun a3 => ?_, fun a3 a4 j hj x hx => ?_⟩⟩, fun a1 => ?_⟩
    · have hr : recOne s l[i] = 2 := by unfold recOne; rw [if_neg (by simp [a1]), if_pos (by omega)]
      rw [hhit (by omega), hr]
    · have hr : recOne s l[i] = 3 := by unfold recOne; rw [if_neg (by simp [a1]), if_neg (by omega), if_neg a3]
      rw [hhit (by omega), hr]
    · by_cases e : j = i
      · subst e; rw [e1] at hx; cases hx
        unfold okG recOne; rw [if_neg (by simp [a1]), if_neg (by omega), if_pos ⟨a3, a4⟩]
      · exact hIi j (by omega) x hx
    · have hr : recOne s l[i] = groundG s l[i].term := by unfold recOne; rw [if_pos a1]
      rw [hhit (by omega), hr]
  · have hall : ∀ x ∈ l, okG s x := fun x hx => by
      obtain ⟨j, hj, rfl⟩ := List.getElem_of_mem hx
      exact hIi j (by omega) _ (List.getElem?_eq_getElem hj)
    have hz : bookRec s l = if rising l = true then 0 else 1 := by
      unfold bookRec; rw [if_neg (by rw [firstF_all hall]; simp)]
    simp (maxSteps := 2000000) (disch := first | assumption | (refine asm_intro ?_; assumption) | exact Nat.le_add_right _ _ | exact Nat.le_refl _ | omega | (simp (disch := first | exact Nat.le_add_right _ _ | omega) only [Le_upd hb, Le_app hb, Le_rfl, free_T hb, free_upd]; done) | fail) only [go_sem, push_cast, and_pos, Le_updF, Le_upd hb, free_T hb, Ps.nil, Ps.fldL (m := 1) rfl, Ps.ldL (m := 1) rfl, Ps.ld0L (m := 1) rfl, Ps.cellsL (m := 1) rfl, Ps.cellsOL (m := 1) rfl]
    refine vq_conv pok (E := (((((Env.base _).add 40 _ W40_ok).add 14 _ W14_ok).add 41 _ W41_ok).add 42 _ W42_ok)) (PL := [(14, [0,1,2,3,4,5,7,8,9,10,11,6,12,13,14], [⟨0, [], []⟩, ⟨1, [], []⟩, ⟨2, [], []⟩, ⟨3, [], []⟩, ⟨4, [], []⟩, ⟨5, [], []⟩, ⟨7, [], []⟩, ⟨8, [], []⟩, ⟨9, [], []⟩, ⟨10, [], []⟩, ⟨11, [], []⟩, ⟨6, [], [11]⟩, ⟨12, [], []⟩, ⟨13, [], []⟩, ⟨14, [], []⟩], .nil)]) (by kernel_rfl) ?_
    simp (maxSteps := 2000000) (disch := first | assumption | (refine asm_intro ?_; assumption) | exact Nat.le_add_right _ _ | exact Nat.le_refl _ | omega | (simp (disch := first | exact Nat.le_add_right _ _ | omega) only [Le_upd hb, Le_app hb, Le_rfl, free_T hb, free_upd]; done) | fail) only [go_sem, push_cast, and_pos, Le_updF, Le_upd hb, free_T hb, Ps.nil, Ps.fldL (m := 1) rfl, Ps.ldL (m := 1) rfl, Ps.ld0L (m := 1) rfl, Ps.cellsL (m := 1) rfl, Ps.cellsOL (m := 1) rfl]
    refine tr_for (fun k => ∀ j, j < k → ∀ x y, l[j]? = some x → l[j + 1]? = some y → Lib.compareBytes (packT x.term) (packT y.term) < 0) (l.length - 1) (fun k => [(0, ps), (1, lst l), (7, .int .i64 ((k : Int) + 1))]) (by simp) (by simp only [go_sem, push_cast, and_pos, Le_updF]) ?_
    intro k Bk hIk hik hBk
    refine vq_conv pok (E := (((((Env.base _).add 40 _ W40_ok).add 14 _ W14_ok).add 41 _ W41_ok).add 42 _ W42_ok)) (PL := [(14, [0,1,2,3,4,5,7,8,9,10,11,6,12,13,14], [⟨0, [], []⟩, ⟨1, [], []⟩, ⟨2, [], []⟩, ⟨3, [], []⟩, ⟨4, [], []⟩, ⟨5, [], []⟩, ⟨7, [], []⟩, ⟨8, [], []⟩, ⟨9, [], []⟩, ⟨10, [], []⟩, ⟨11, [], []⟩, ⟨6, [], [11]⟩, ⟨12, [], []⟩, ⟨13, [], []⟩, ⟨14, [], []⟩], .nil)]) (by kernel_rfl) ?_
    rcases Nat.lt_or_ge k (l.length - 1) with hltk | hgek
    · have hok1 := okG_term (hall _ (List.getElem_mem (show k < l.length by omega)))
      have hok2 := okG_term (hall _ (List.getElem_mem (show k + 1 < l.length by omega)))
      have e1 : l[k]? = some (l[k]'(by omega)) := List.getElem?_eq_getElem _
      have e2 : l[k + 1]? = some (l[k + 1]'(by omega)) := List.getElem?_eq_getElem _
      have g1 := (sm_mem h2 (List.getElem_mem (show k < l.length by omega)))
      have g2 := (sm_mem h2 (List.getElem_mem (show k + 1 < l.length by omega)))
      simp only [sm_GRecord] at g1 g2
      have g3 := g1.1
      have g4 := g2.1
      have g5 : smallN l[k].term := nodes_small hs hok1.1.nodes
      have g6 : smallN l[k + 1].term := nodes_small hs hok2.1.nodes
      have g7 := packT_len l[k].term
      have g8 := packT_len l[k + 1].term
      have g9 : sm (packT l[k].term) := ⟨by have := hok1.2.1; omega, fun _ _ => trivial⟩
      have g10 : sm (packT l[k + 1].term) := ⟨by have := hok2.2.1; omega, fun _ _ => trivial⟩
      have g11 := hok1.2.1
      have g12 := hok2.2.1
      have c1 : ((k : Int) + 1 - 1).toNat = k := by omega
      have c2 : ((k : Int) + 1).toNat = k + 1 := by omega
      simp (maxSteps := 2000000) (disch := first | assumption | (refine asm_intro ?_; assumption) | exact Nat.le_add_right _ _ | exact Nat.le_refl _ | omega | (simp (disch := first | exact Nat.le_add_right _ _ | omega) only [Le_upd hb, Le_app hb, Le_rfl, free_T hb, free_upd]; done) | fail) only [go_sem, push_cast, and_pos, Le_updF, Le_upd hb, free_T hb, Ps.nil, Ps.fldL (m := 1) rfl, Ps.ldL (m := 1) rfl, Ps.ld0L (m := 1) rfl, Ps.cellsL (m := 1) rfl, Ps.cellsOL (m := 1) rfl, e1, e2, c1, c2, g3, g4, g5, g6, g9, g10]
      refine ⟨fun h => ?_, fun h j hj x y j1 j2 => ?_⟩
      · rw [hz, if_neg (by rw [rising_no e1 e2 (by omega)]; simp)]
      · by_cases e : j = k
        · subst e; rw [e1] at j1; rw [e2] at j2; cases j1; cases j2; omega
        · exact hIk j (by omega) x y j1 j2
    · simp (maxSteps := 2000000) (disch := first | assumption | (refine asm_intro ?_; assumption) | exact Nat.le_add_right _ _ | exact Nat.le_refl _ | omega | (simp (disch := first | exact Nat.le_add_right _ _ | omega) only [Le_upd hb, Le_app hb, Le_rfl, free_T hb, free_upd]; done) | fail) only [go_sem, push_cast, and_pos, Le_updF, Le_upd hb, free_T hb, Ps.nil, Ps.fldL (m := 1) rfl, Ps.ldL (m := 1) rfl, Ps.ld0L (m := 1) rfl, Ps.cellsL (m := 1) rfl, Ps.cellsOL (m := 1) rfl]
      refine vq_conv pok (E := (((((Env.base _).add 40 _ W40_ok).add 14 _ W14_ok).add 41 _ W41_ok).add 42 _ W42_ok)) (PL := [(14, [0,1,2,3,4,5,7,8,9,10,11,6,12,13,14], [⟨0, [], []⟩, ⟨1, [], []⟩, ⟨2, [], []⟩, ⟨3, [], []⟩, ⟨4, [], []⟩, ⟨5, [], []⟩, ⟨7, [], []⟩, ⟨8, [], []⟩, ⟨9, [], []⟩, ⟨10, [], []⟩, ⟨11, [], []⟩, ⟨6, [], [11]⟩, ⟨12, [], []⟩, ⟨13, [], []⟩, ⟨14, [], []⟩], .nil)]) (by kernel_rfl) ?_
      simp (maxSteps := 2000000) (disch := first | assumption | (refine asm_intro ?_; assumption) | exact Nat.le_add_right _ _ | exact Nat.le_refl _ | omega | (simp (disch := first | exact Nat.le_add_right _ _ | omega) only [Le_upd hb, Le_app hb, Le_rfl, free_T hb, free_upd]; done) | fail) only [go_sem, push_cast, and_pos, Le_updF, Le_upd hb, free_T hb, Ps.nil, Ps.fldL (m := 1) rfl, Ps.ldL (m := 1) rfl, Ps.ld0L (m := 1) rfl, Ps.cellsL (m := 1) rfl, Ps.cellsOL (m := 1) rfl]
      rw [hz, if_pos (rising_yes fun j x y j1 j2 => hIk j (by have := (List.getElem?_eq_some_iff.1 j2).1; omega) x y j1 j2)]
def W5 : Trans := fun args H Bd K => ∃ (x : GBook), args = [.agg (enc (x)).toArray] ∧ ((sm x ∧ rg x) ∧ K (.int .i64 (bookF x)) H Bd)
@[go_sem ↓] theorem W5_eq (x_symbols_symbols : List GSymbol) (x_version : Int) (x_theory_order : List Int) (x_theory_equations : List GEquation) (x_theory_rules : List GEquation) (x_moving : Bool) (x_next_order : List Int) (x_next_equations : List GEquation) (x_next_rules : List GEquation) (x_cursor : List UInt8) (x_records : List GRecord) (H : AH) (Bd : Nat) (K : Value → AH → Nat → Prop) : W5 [.agg #[lst (x_symbols_symbols), .int .i64 (x_version), lst (x_theory_order), lst (x_theory_equations), lst (x_theory_rules), .bool (x_moving), lst (x_next_order), lst (x_next_equations), lst (x_next_rules), lst (x_cursor), lst (x_records)]] H Bd K = ((sm (GBook.mk (GSignature.mk x_symbols_symbols) x_version (GTheory.mk x_theory_order x_theory_equations x_theory_rules) x_moving (GTheory.mk x_next_order x_next_equations x_next_rules) x_cursor x_records) ∧ rg (GBook.mk (GSignature.mk x_symbols_symbols) x_version (GTheory.mk x_theory_order x_theory_equations x_theory_rules) x_moving (GTheory.mk x_next_order x_next_equations x_next_rules) x_cursor x_records)) ∧ K (.int .i64 (bookF (GBook.mk (GSignature.mk x_symbols_symbols) x_version (GTheory.mk x_theory_order x_theory_equations x_theory_rules) x_moving (GTheory.mk x_next_order x_next_equations x_next_rules) x_cursor x_records))) H Bd) := by
  refine propext ⟨fun h => ?_, fun h => ⟨_, rfl, h⟩⟩
  obtain ⟨x', e, h⟩ := h
  obtain ⟨⟨xsymbolssymbols'⟩, xversion', ⟨xtheoryorder', xtheoryequations', xtheoryrules'⟩, xmoving', ⟨xnext_order', xnext_equations', xnext_rules'⟩, xcursor', xrecords'⟩ := x'
  simp only [enc_GBook, enc_GSignature, enc_GTheory, List.cons.injEq, Value.agg.injEq, toArr_inj, Value.int.injEq, Value.bool.injEq, Value.string.injEq, Value.slice.injEq, Value.func.injEq, Value.pointer.injEq, Option.some.injEq, Addr.mk.injEq, lst_inj, true_and, and_true] at e
  obtain ⟨rfl, rfl, rfl, rfl, rfl, rfl, rfl, rfl, rfl, rfl, rfl⟩ := e
  exact h
set_option maxHeartbeats 2000000 in
theorem W5_ok : OK 5 W5 := by
  rintro args H Bd K ⟨x, rfl, hpre, hK⟩
  refine fn_pure pok (((((Env.base _).add 13 _ W13_ok).add 14 _ W14_ok).add 15 _ W15_ok).add 16 _ W16_ok) [(15, [], [], (.k 5 (.grp false 53 57 4 [54, 55, 56, 57] 58 none (.k 4 .nil) .nil)))] _ hK Tryz.func5 rfl (rs := [.tmp 2]) rfl Tryz.ntmps5 (by simp) Tryz.call5 (by kernel_rfl) (fun ha hb => .int _ _) (fun hb ha => ?_)
  obtain ⟨h1, h2⟩ := hpre
  have hss : sm x.symbols := h1.1
  simp only [sm_GBook] at h1
  have h3 : rg x.theory := h2.2.2.1
  have h4 : rg x.next_ := h2.2.2.2.2.1
  have h5 : rg x.records := h2.2.2.2.2.2.2
  have hn := h1.2.2.2.2.1
  simp only [sm_GTheory] at hn
  have q1 := sm_len hn.1
  have q2 := sm_len hn.2.1
  have q3 := sm_len hn.2.2
  have q4 := sm_len h1.2.2.2.2.2.1
  simp (maxSteps := 2000000) (disch := first | assumption | (refine asm_intro ?_; assumption) | exact Nat.le_add_right _ _ | exact Nat.le_refl _ | omega | (simp (disch := first | exact Nat.le_add_right _ _ | omega) only [Le_upd hb, Le_app hb, Le_rfl, free_T hb, free_upd]; done) | fail) only [go_sem, push_cast, and_pos, Le_updF, Le_upd hb, free_T hb, h1, hss, h3, h4, h5]
  unfold bookF
  simp only [Cnp, Imp]
  (repeat' (first | apply And.intro | intro _)) <;> first | omega | grind
def W47 : Trans := fun args H Bd K => ∃ (s : ByteArray), args = [.string (s)] ∧ ((s.size ≤ 281474976710656) ∧ K (.bool (isNm s)) H Bd)
@[go_sem ↓] theorem W47_eq (s : ByteArray) (H : AH) (Bd : Nat) (K : Value → AH → Nat → Prop) : W47 [.string (s)] H Bd K = ((s.size ≤ 281474976710656) ∧ K (.bool (isNm s)) H Bd) := by
  refine propext ⟨fun h => ?_, fun h => ⟨_, rfl, h⟩⟩
  obtain ⟨s', e, h⟩ := h
  skip
  simp only [List.cons.injEq, Value.agg.injEq, toArr_inj, Value.int.injEq, Value.bool.injEq, Value.string.injEq, Value.slice.injEq, Value.func.injEq, Value.pointer.injEq, Option.some.injEq, Addr.mk.injEq, lst_inj, true_and, and_true] at e
  obtain rfl := e
  exact h
theorem W47_ok : OK 47 W47 := by
  rintro args H Bd K ⟨s, rfl, hpre, hK⟩
  refine fn_pure pok ((Env.base _).add 77 _ W77_ok) [(1, [], [], (.k 4 (.grp true 6 9 3 [7, 8, 9] 10 none (.k 3 .nil) (.k 1 (.grp true 11 14 3 [12, 13, 14] 15 none (.k 3 .nil) (.k 1 .nil))))))] _ hK Tryz.func47 rfl (rs := [.tmp 2]) rfl Tryz.ntmps47 (by simp) Tryz.call47 (by kernel_rfl) (fun ha hb => .bool _) (fun hb ha => ?_)
  simp (maxSteps := 2000000) (disch := first | assumption | (refine asm_intro ?_; assumption) | exact Nat.le_add_right _ _ | exact Nat.le_refl _ | omega | (simp (disch := first | exact Nat.le_add_right _ _ | omega) only [Le_upd hb, Le_app hb, Le_rfl, free_T hb, free_upd]; done) | fail) only [go_sem, push_cast, and_pos, Le_updF, Le_upd hb, free_T hb, hpre]
  exact ⟨fun _ _ => ⟨by decide, az_lt⟩, isNm_trim s⟩
def W22 : Trans := fun args H Bd K => ∃ (n : Int) (low : Int) (high : Int), args = [.int .i64 (n), .int .i64 (low), .int .i64 (high)] ∧ (K (.bool (decide (low ≤ n ∧ n ≤ high))) H Bd)
@[go_sem ↓] theorem W22_eq (n : Int) (low : Int) (high : Int) (H : AH) (Bd : Nat) (K : Value → AH → Nat → Prop) : W22 [.int .i64 (n), .int .i64 (low), .int .i64 (high)] H Bd K = (K (.bool (decide (low ≤ n ∧ n ≤ high))) H Bd) := by
  refine propext ⟨fun h => ?_, fun h => ⟨_, _, _, rfl, h⟩⟩
  obtain ⟨n', low', high', e, h⟩ := h
  skip
  skip
  skip
  simp only [List.cons.injEq, Value.agg.injEq, toArr_inj, Value.int.injEq, Value.bool.injEq, Value.string.injEq, Value.slice.injEq, Value.func.injEq, Value.pointer.injEq, Option.some.injEq, Addr.mk.injEq, lst_inj, true_and, and_true] at e
  obtain ⟨rfl, rfl, rfl⟩ := e
  exact h
theorem W22_ok : OK 22 W22 := by
  rintro args H Bd K ⟨n, low, high, rfl, hK⟩
  refine fn_pure pok (Env.base _) [(1, [], [], (.k 4 (.grp true 10 13 3 [11, 12, 13] 14 none (.k 3 .nil) (.k 1 .nil))))] _ hK Tryz.func22 rfl (rs := [.tmp 6]) rfl Tryz.ntmps22 (by simp) Tryz.call22 (by kernel_rfl) (fun ha hb => .bool _) (fun hb ha => ?_)
  simp (maxSteps := 2000000) (disch := first | assumption | (refine asm_intro ?_; assumption) | exact Nat.le_add_right _ _ | exact Nat.le_refl _ | omega | (simp (disch := first | exact Nat.le_add_right _ _ | omega) only [Le_upd hb, Le_app hb, Le_rfl, free_T hb, free_upd]; done) | fail) only [go_sem, push_cast, and_pos, Le_updF, Le_upd hb, free_T hb]
  all_goals first | done | trivial | ((try simp only [Cnp, Imp]); grind)
theorem G78 (g : Nat) (caps : Array Value) (p : GSymbol → Bool) (xs : List GSymbol) (H : AH) (Bd : Nat) (K : Value → AH → Nat → Prop) (hsm : sm xs) (hg : ∀ x ∈ xs, ∀ B, Bd ≤ B → ∀ K' : Value → AH → Nat → Prop, K' (.bool (p x)) H B → SCalls Tryz.prog g (idS ((.agg (enc (x)).toArray) :: caps.toList)) H B K') (hK : K (.int .i64 (fidx p xs)) H Bd) : SCalls Tryz.prog 78 [lst xs, .func (.func g) #[] caps] H Bd K := by
  refine fn_pure pok (Env.base _) [] _ hK Tryz.func78 rfl (rs := [.tmp 4]) rfl Tryz.ntmps78 (by simp) Tryz.call78 (by kernel_rfl) (fun ha hb => .int _ _) (fun hb ha => ?_)
  have hlen := sm_len hsm
  simp (maxSteps := 2000000) (disch := first | assumption | (refine asm_intro ?_; assumption) | exact Nat.le_add_right _ _ | exact Nat.le_refl _ | omega | (simp (disch := first | exact Nat.le_add_right _ _ | omega) only [Le_upd hb, Le_app hb, Le_rfl, free_T hb, free_upd]; done) | fail) only [go_sem, push_cast, and_pos, Le_updF, Le_upd hb, free_T hb]
  refine tr_for (fun i => ∀ j, j < i → ∀ x, xs[j]? = some x → p x = false) (xs.length) (fun i => [(0, lst xs), (1, .func (.func g) #[] caps), (7, .int .i64 xs.length), (8, .int .i64 i)]) (by simp) (by simp only [go_sem, push_cast, and_pos, Le_updF]) ?_
  intro i Bi hIi hii hBi
  refine vq_conv pok (E := (Env.base _)) (PL := []) (by kernel_rfl) ?_
  rcases Nat.lt_or_ge i (xs.length) with hlti | hgei
  · have e1 : xs[i]? = some xs[i] := List.getElem?_eq_getElem hlti
    simp (maxSteps := 2000000) (disch := first | assumption | (refine asm_intro ?_; assumption) | exact Nat.le_add_right _ _ | exact Nat.le_refl _ | omega | (simp (disch := first | exact Nat.le_add_right _ _ | omega) only [Le_upd hb, Le_app hb, Le_rfl, free_T hb, free_upd]; done) | fail) only [go_sem, push_cast, and_pos, Le_updF, Le_upd hb, free_T hb, e1]
    refine hg _ (List.getElem_mem hlti) _ (by omega) _ ?_
    simp (maxSteps := 2000000) (disch := first | assumption | (refine asm_intro ?_; assumption) | exact Nat.le_add_right _ _ | exact Nat.le_refl _ | omega | (simp (disch := first | exact Nat.le_add_right _ _ | omega) only [Le_upd hb, Le_app hb, Le_rfl, free_T hb, free_upd]; done) | fail) only [go_sem, push_cast, and_pos, Le_updF, Le_upd hb, free_T hb, e1]
    exact ⟨fun h => by rw [fidx_hit hlti hIi h], fun h => fun j hj x hx => by
      by_cases e : j = i
      · subst e; rw [e1] at hx; cases hx; simpa using h
      · exact hIi j (by omega) x hx⟩
  · simp (maxSteps := 2000000) (disch := first | assumption | (refine asm_intro ?_; assumption) | exact Nat.le_add_right _ _ | exact Nat.le_refl _ | omega | (simp (disch := first | exact Nat.le_add_right _ _ | omega) only [Le_upd hb, Le_app hb, Le_rfl, free_T hb, free_upd]; done) | fail) only [go_sem, push_cast, and_pos, Le_updF, Le_upd hb, free_T hb]
    refine vq_conv pok (E := (Env.base _)) (PL := []) (by kernel_rfl) ?_
    simp (maxSteps := 2000000) (disch := first | assumption | (refine asm_intro ?_; assumption) | exact Nat.le_add_right _ _ | exact Nat.le_refl _ | omega | (simp (disch := first | exact Nat.le_add_right _ _ | omega) only [Le_upd hb, Le_app hb, Le_rfl, free_T hb, free_upd]; done) | fail) only [go_sem, push_cast, and_pos, Le_updF, Le_upd hb, free_T hb]
    rw [fidx_none fun j hj x hx => hIi j (by omega) x hx]
def V79 : Trans := fun args H Bd K => ∃ (x : GSymbol) (name : ByteArray), args = [.agg (enc (x)).toArray, .agg (enc (name)).toArray] ∧ (K (.bool (decide (x.name = name))) H Bd)
@[go_sem ↓] theorem V79_eq (x_name : ByteArray) (x_arity : Int) (name : ByteArray) (H : AH) (Bd : Nat) (K : Value → AH → Nat → Prop) : V79 [.agg #[.string (x_name), .int .i64 (x_arity)], .agg #[.string (name)]] H Bd K = (K (.bool (decide ((GSymbol.mk x_name x_arity).name = name))) H Bd) := by
  refine propext ⟨fun h => ?_, fun h => ⟨_, _, rfl, h⟩⟩
  obtain ⟨x', name', e, h⟩ := h
  obtain ⟨xname', xarity'⟩ := x'
  skip
  simp only [enc_GSymbol, enc_int, enc_str, enc_list, enc_bool, enc_byte, List.cons.injEq, Value.agg.injEq, toArr_inj, Value.int.injEq, Value.bool.injEq, Value.string.injEq, Value.slice.injEq, Value.func.injEq, Value.pointer.injEq, Option.some.injEq, Addr.mk.injEq, lst_inj, true_and, and_true] at e
  obtain ⟨⟨rfl, rfl⟩, rfl⟩ := e
  exact h
def W79 : Trans := fun args H Bd K => ∃ (vx pname : Value), args = [vx, pname] ∧ Yld (cellsAt H 1 pname) fun cname => callW V79 [vx, .agg cname.toArray] H Bd K
@[go_sem ↓] theorem W79_eq (vx pname : Value) (H : AH) (Bd : Nat) (K : Value → AH → Nat → Prop) : W79 [vx, pname] H Bd K = (Yld (cellsAt H 1 pname) fun cname => callW V79 (idS [vx, .agg cname.toArray]) H Bd K) := by
  refine propext ⟨fun h => ?_, fun h => ⟨_, _, rfl, h⟩⟩
  obtain ⟨vx', pname', e, h⟩ := h
  simp only [List.cons.injEq, and_true] at e
  obtain ⟨rfl, rfl⟩ := e
  exact h
theorem W79_ok : OK 79 W79 := by
  rintro args H Bd K ⟨vx, pname, rfl, cname, ename, h⟩
  obtain ⟨x, name, e, hK⟩ := h
  simp only [List.cons.injEq, and_true] at e
  obtain ⟨rfl, Ename⟩ := e
  obtain rfl := agg_inj Ename
  refine fn_pure pok (Env.base _) [] _ hK Tryz.func79 rfl (rs := [.tmp 3]) rfl Tryz.ntmps79 (by simp) Tryz.call79 (by kernel_rfl) (fun ha hb => .bool _) (fun hb ha => ?_)
  have Pname := cellsAt_out ename (NB.vpok (ha pname (by simp)))
  simp only [enc_int, enc_str, enc_list, enc_bool, enc_byte] at Pname
  simp (maxSteps := 2000000) (disch := first | assumption | (refine asm_intro ?_; assumption) | exact Nat.le_add_right _ _ | exact Nat.le_refl _ | omega | (simp (disch := first | exact Nat.le_add_right _ _ | omega) only [Le_upd hb, Le_app hb, Le_rfl, free_T hb, free_upd]; done) | fail) only [go_sem, push_cast, and_pos, Le_updF, Le_upd hb, free_T hb, Pname.nil, Pname.fldL (m := 1) rfl, Pname.ldL (m := 1) rfl, Pname.ld0L (m := 1) rfl, Pname.cellsL (m := 1) rfl, Pname.cellsOL (m := 1) rfl]

def V78_79 : Trans := fun args H Bd K => ∃ (xs : List GSymbol) (name : ByteArray), args = [lst (xs), .agg (enc (name)).toArray] ∧ ((sm xs) ∧ K (.int .i64 (fidx (fun x : GSymbol => decide (x.name = name)) xs)) H Bd)
@[go_sem ↓] theorem V78_79_eq (xs : List GSymbol) (name : ByteArray) (H : AH) (Bd : Nat) (K : Value → AH → Nat → Prop) : V78_79 [lst (xs), .agg #[.string (name)]] H Bd K = ((sm xs) ∧ K (.int .i64 (fidx (fun x : GSymbol => decide (x.name = name)) xs)) H Bd) := by
  refine propext ⟨fun h => ?_, fun h => ⟨_, _, rfl, h⟩⟩
  obtain ⟨xs', name', e, h⟩ := h
  skip
  skip
  simp only [enc_int, enc_str, enc_list, enc_bool, enc_byte, List.cons.injEq, Value.agg.injEq, toArr_inj, Value.int.injEq, Value.bool.injEq, Value.string.injEq, Value.slice.injEq, Value.func.injEq, Value.pointer.injEq, Option.some.injEq, Addr.mk.injEq, lst_inj, true_and, and_true] at e
  obtain ⟨rfl, rfl⟩ := e
  exact h
def W78_79 : Trans := fun args H Bd K => ∃ (vxs pname : Value), args = [vxs, .func (.func 79) #[] #[pname]] ∧ Yld (cellsAt H 1 pname) fun cname => callW V78_79 [vxs, .agg cname.toArray] H Bd K
@[go_sem ↓] theorem W78_79_eq (vxs pname : Value) (H : AH) (Bd : Nat) (K : Value → AH → Nat → Prop) : W78_79 [vxs, .func (.func 79) #[] #[pname]] H Bd K = (Yld (cellsAt H 1 pname) fun cname => callW V78_79 (idS [vxs, .agg cname.toArray]) H Bd K) := by
  refine propext ⟨fun h => ?_, fun h => ⟨_, _, rfl, h⟩⟩
  obtain ⟨vxs', pname', e, h⟩ := h
  simp only [List.cons.injEq, Value.func.injEq, toArr_inj, List.cons.injEq, and_true, true_and] at e
  obtain ⟨rfl, rfl⟩ := e
  exact h
theorem W78_79_ok : OK 78 W78_79 := by
  rintro args H Bd K ⟨vxs, pname, rfl, cname, ename, h⟩
  obtain ⟨xs, name, e, hpre, hK⟩ := h
  simp only [List.cons.injEq, and_true] at e
  obtain ⟨rfl, Ename⟩ := e
  obtain rfl := agg_inj Ename
  refine G78 79 #[pname] (fun x : GSymbol => decide (x.name = name)) xs H Bd K hpre (fun x hx B hB K' hk => ?_) hK
  exact W79_ok _ _ _ _ ⟨_, _, rfl, _, ename, x, name, rfl, hk⟩

def W48 : Trans := fun args H Bd K => ∃ (s : GSignature) (name : ByteArray), args = [.agg (enc (s)).toArray, .string (name)] ∧ ((sm s) ∧ K (.int .i64 (symIdx s name)) H Bd)
@[go_sem ↓] theorem W48_eq (s_symbols : List GSymbol) (name : ByteArray) (H : AH) (Bd : Nat) (K : Value → AH → Nat → Prop) : W48 [.agg #[lst (s_symbols)], .string (name)] H Bd K = ((sm (GSignature.mk s_symbols)) ∧ K (.int .i64 (symIdx (GSignature.mk s_symbols) name)) H Bd) := by
  refine propext ⟨fun h => ?_, fun h => ⟨_, _, rfl, h⟩⟩
  obtain ⟨s', name', e, h⟩ := h
  obtain ⟨ssymbols'⟩ := s'
  skip
  simp only [enc_GSignature, List.cons.injEq, Value.agg.injEq, toArr_inj, Value.int.injEq, Value.bool.injEq, Value.string.injEq, Value.slice.injEq, Value.func.injEq, Value.pointer.injEq, Option.some.injEq, Addr.mk.injEq, lst_inj, true_and, and_true] at e
  obtain ⟨rfl, rfl⟩ := e
  exact h
theorem W48_ok : OK 48 W48 := by
  rintro args H Bd K ⟨s, name, rfl, hpre, hK⟩
  refine fn_pure pok ((Env.base _).add 78 _ W78_79_ok) [] _ hK Tryz.func48 rfl (rs := [.tmp 4]) rfl Tryz.ntmps48 (by simp) Tryz.call48 (by kernel_rfl) (fun ha hb => .int _ _) (fun hb ha => ?_)
  simp only [sm_GSignature] at hpre
  simp (maxSteps := 2000000) (disch := first | assumption | (refine asm_intro ?_; assumption) | exact Nat.le_add_right _ _ | exact Nat.le_refl _ | omega | (simp (disch := first | exact Nat.le_add_right _ _ | omega) only [Le_upd hb, Le_app hb, Le_rfl, free_T hb, free_upd]; done) | fail) only [go_sem, push_cast, and_pos, Le_updF, Le_upd hb, free_T hb, hpre]
  try rfl

theorem G49 (g : Nat) (caps : Array Value) (p : GSymbol → Bool) (xs : List GSymbol) (H : AH) (Bd : Nat) (K : Value → AH → Nat → Prop) (hsm : sm xs) (hg : ∀ x ∈ xs, ∀ B, Bd ≤ B → ∀ K' : Value → AH → Nat → Prop, K' (.bool (p x)) H B → SCalls Tryz.prog g (idS ((.agg (enc (x)).toArray) :: caps.toList)) H B K') (hK : K (.bool (xs.any p)) H Bd) : SCalls Tryz.prog 49 [lst xs, .func (.func g) #[] caps] H Bd K := by
  refine fn_pure pok (Env.base _) [] _ hK Tryz.func49 rfl (rs := [.tmp 4]) rfl Tryz.ntmps49 (by simp) Tryz.call49 (by kernel_rfl) (fun ha hb => .bool _) (fun hb ha => ?_)
  simp (maxSteps := 2000000) (disch := first | assumption | (refine asm_intro ?_; assumption) | exact Nat.le_add_right _ _ | exact Nat.le_refl _ | omega | (simp (disch := first | exact Nat.le_add_right _ _ | omega) only [Le_upd hb, Le_app hb, Le_rfl, free_T hb, free_upd]; done) | fail) only [go_sem, push_cast, and_pos, Le_updF, Le_upd hb, free_T hb]
  refine G78 _ _ p xs _ _ _ hsm hg ?_
  simp (maxSteps := 2000000) (disch := first | assumption | (refine asm_intro ?_; assumption) | exact Nat.le_add_right _ _ | exact Nat.le_refl _ | omega | (simp (disch := first | exact Nat.le_add_right _ _ | omega) only [Le_upd hb, Le_app hb, Le_rfl, free_T hb, free_upd]; done) | fail) only [go_sem, push_cast, and_pos, Le_updF, Le_upd hb, free_T hb]
  exact fidx_ge p xs

def W50 : Trans := fun args H Bd K => ∃ (x : GSymbol), args = [.agg (enc (x)).toArray] ∧ (K (.bool (decide (x.arity = 0))) H Bd)
@[go_sem ↓] theorem W50_eq (x_name : ByteArray) (x_arity : Int) (H : AH) (Bd : Nat) (K : Value → AH → Nat → Prop) : W50 [.agg #[.string (x_name), .int .i64 (x_arity)]] H Bd K = (K (.bool (decide ((GSymbol.mk x_name x_arity).arity = 0))) H Bd) := by
  refine propext ⟨fun h => ?_, fun h => ⟨_, rfl, h⟩⟩
  obtain ⟨x', e, h⟩ := h
  obtain ⟨xname', xarity'⟩ := x'
  simp only [enc_GSymbol, List.cons.injEq, Value.agg.injEq, toArr_inj, Value.int.injEq, Value.bool.injEq, Value.string.injEq, Value.slice.injEq, Value.func.injEq, Value.pointer.injEq, Option.some.injEq, Addr.mk.injEq, lst_inj, true_and, and_true] at e
  obtain ⟨rfl, rfl⟩ := e
  exact h
theorem W50_ok : OK 50 W50 := by
  rintro args H Bd K ⟨x, rfl, hK⟩
  refine fn_pure pok (Env.base _) [] _ hK Tryz.func50 rfl (rs := [.tmp 2]) rfl Tryz.ntmps50 (by simp) Tryz.call50 (by kernel_rfl) (fun ha hb => .bool _) (fun hb ha => ?_)
  simp (maxSteps := 2000000) (disch := first | assumption | (refine asm_intro ?_; assumption) | exact Nat.le_add_right _ _ | exact Nat.le_refl _ | omega | (simp (disch := first | exact Nat.le_add_right _ _ | omega) only [Le_upd hb, Le_app hb, Le_rfl, free_T hb, free_upd]; done) | fail) only [go_sem, push_cast, and_pos, Le_updF, Le_upd hb, free_T hb]

def V49_50 : Trans := fun args H Bd K => ∃ (xs : List GSymbol), args = [lst (xs)] ∧ ((sm xs) ∧ K (.bool (xs.any (fun x : GSymbol => decide (x.arity = 0)))) H Bd)
@[go_sem ↓] theorem V49_50_eq (xs : List GSymbol) (H : AH) (Bd : Nat) (K : Value → AH → Nat → Prop) : V49_50 [lst (xs)] H Bd K = ((sm xs) ∧ K (.bool (xs.any (fun x : GSymbol => decide (x.arity = 0)))) H Bd) := by
  refine propext ⟨fun h => ?_, fun h => ⟨_, rfl, h⟩⟩
  obtain ⟨xs', e, h⟩ := h
  skip
  simp only [List.cons.injEq, Value.agg.injEq, toArr_inj, Value.int.injEq, Value.bool.injEq, Value.string.injEq, Value.slice.injEq, Value.func.injEq, Value.pointer.injEq, Option.some.injEq, Addr.mk.injEq, lst_inj, true_and, and_true] at e
  obtain rfl := e
  exact h
def W49_50 : Trans := fun args H Bd K => ∃ (vxs : Value), args = [vxs, .func (.func 50) #[] #[]] ∧ callW V49_50 [vxs] H Bd K
@[go_sem ↓] theorem W49_50_eq (vxs : Value) (H : AH) (Bd : Nat) (K : Value → AH → Nat → Prop) : W49_50 [vxs, .func (.func 50) #[] #[]] H Bd K = (callW V49_50 (idS [vxs]) H Bd K) := by
  refine propext ⟨fun h => ?_, fun h => ⟨_, rfl, h⟩⟩
  obtain ⟨vxs', e, h⟩ := h
  simp only [List.cons.injEq, Value.func.injEq, toArr_inj, List.cons.injEq, and_true, true_and] at e
  obtain rfl := e
  exact h
theorem W49_50_ok : OK 49 W49_50 := by
  rintro args H Bd K ⟨vxs, rfl, h⟩
  obtain ⟨xs, e, hpre, hK⟩ := h
  simp only [List.cons.injEq, and_true] at e
  obtain rfl := e
  refine G49 50 #[] (fun x : GSymbol => decide (x.arity = 0)) xs H Bd K hpre (fun x hx B hB K' hk => ?_) hK
  exact W50_ok _ _ _ _ ⟨x, rfl, hk⟩

def W21 : Trans := fun args H Bd K => ∃ (s : GSignature), args = [.agg (enc (s)).toArray] ∧ ((sm s) ∧ K (.int .i64 (sigF s)) H Bd)
@[go_sem ↓] theorem W21_eq (s_symbols : List GSymbol) (H : AH) (Bd : Nat) (K : Value → AH → Nat → Prop) : W21 [.agg #[lst (s_symbols)]] H Bd K = ((sm (GSignature.mk s_symbols)) ∧ K (.int .i64 (sigF (GSignature.mk s_symbols))) H Bd) := by
  refine propext ⟨fun h => ?_, fun h => ⟨_, rfl, h⟩⟩
  obtain ⟨s', e, h⟩ := h
  obtain ⟨ssymbols'⟩ := s'
  simp only [enc_GSignature, List.cons.injEq, Value.agg.injEq, toArr_inj, Value.int.injEq, Value.bool.injEq, Value.string.injEq, Value.slice.injEq, Value.func.injEq, Value.pointer.injEq, Option.some.injEq, Addr.mk.injEq, lst_inj, true_and, and_true] at e
  obtain rfl := e
  exact h
set_option maxHeartbeats 2000000 in
theorem W21_ok : OK 21 W21 := by
  rintro args H Bd K ⟨s, rfl, hpre, hK⟩
  refine fn_pure pok (((((Env.base _).add 47 _ W47_ok).add 22 _ W22_ok).add 48 _ W48_ok).add 49 _ W49_50_ok) [(1, [], [], (.k 5 (.grp false 11 15 4 [12, 13, 14, 15] 16 none (.k 4 .nil) .nil)))] _ hK Tryz.func21 rfl (rs := [.tmp 2]) rfl Tryz.ntmps21 (by simp) Tryz.call21 (by kernel_rfl) (fun ha hb => .int _ _) (fun hb ha => ?_)
  simp only [sm_GSignature] at hpre
  have hlen := sm_len hpre
  have hss : sm s := hpre
  simp (maxSteps := 2000000) (disch := first | assumption | (refine asm_intro ?_; assumption) | exact Nat.le_add_right _ _ | exact Nat.le_refl _ | omega | (simp (disch := first | exact Nat.le_add_right _ _ | omega) only [Le_upd hb, Le_app hb, Le_rfl, free_T hb, free_upd]; done) | fail) only [go_sem, push_cast, and_pos, Le_updF, Le_upd hb, free_T hb]
  refine ⟨fun h => by unfold sigF; rw [if_pos (by omega)], fun h1 h2 => ?_⟩
  have hs : sigF s = sigG s := by unfold sigF; rw [if_neg (by omega)]
  rw [hs]
  refine tr_for (fun i => symL (s.symbols.drop i) = symL s.symbols) (s.symbols.length) (fun i => [(1, .pointer (some ⟨Bd, 0, none⟩)), (18, lst s.symbols), (19, .int .i64 s.symbols.length), (20, .int .i64 i)]) (by simp) (by simp only [go_sem, push_cast, and_pos, Le_updF]) ?_
  intro i Bi hIi hii hBi
  refine vq_conv pok (E := (((((Env.base _).add 47 _ W47_ok).add 22 _ W22_ok).add 48 _ W48_ok).add 49 _ W49_50_ok)) (PL := [(1, [], [], (.k 5 (.grp false 11 15 4 [12, 13, 14, 15] 16 none (.k 4 .nil) .nil)))]) (by kernel_rfl) ?_
  rcases Nat.lt_or_ge i (s.symbols.length) with hlti | hgei
  · have e1 : s.symbols[i]? = some s.symbols[i] := List.getElem?_eq_getElem hlti
    have hd := List.drop_eq_getElem_cons hlti
    have hx := sm_mem hpre (List.getElem_mem hlti)
    simp only [sm_GSymbol, sm_str, sm_int, and_true] at hx
    rw [hd, symL] at hIi
    simp (maxSteps := 2000000) (disch := first | assumption | (refine asm_intro ?_; assumption) | exact Nat.le_add_right _ _ | exact Nat.le_refl _ | omega | (simp (disch := first | exact Nat.le_add_right _ _ | omega) only [Le_upd hb, Le_app hb, Le_rfl, free_T hb, free_upd]; done) | fail) only [go_sem, push_cast, and_pos, Le_updF, Le_upd hb, free_T hb, e1, hx]
    generalize symL (List.drop (i + 1) s.symbols) = q at *
    unfold sigG
    all_goals first | done | trivial | ((try simp only [Cnp, Imp]); grind)
  · simp (maxSteps := 2000000) (disch := first | assumption | (refine asm_intro ?_; assumption) | exact Nat.le_add_right _ _ | exact Nat.le_refl _ | omega | (simp (disch := first | exact Nat.le_add_right _ _ | omega) only [Le_upd hb, Le_app hb, Le_rfl, free_T hb, free_upd]; done) | fail) only [go_sem, push_cast, and_pos, Le_updF, Le_upd hb, free_T hb]
    refine vq_conv pok (E := (((((Env.base _).add 47 _ W47_ok).add 22 _ W22_ok).add 48 _ W48_ok).add 49 _ W49_50_ok)) (PL := [(1, [], [], (.k 5 (.grp false 11 15 4 [12, 13, 14, 15] 16 none (.k 4 .nil) .nil)))]) (by kernel_rfl) ?_
    simp (maxSteps := 2000000) (disch := first | assumption | (refine asm_intro ?_; assumption) | exact Nat.le_add_right _ _ | exact Nat.le_refl _ | omega | (simp (disch := first | exact Nat.le_add_right _ _ | omega) only [Le_upd hb, Le_app hb, Le_rfl, free_T hb, free_upd]; done) | fail) only [go_sem, push_cast, and_pos, Le_updF, Le_upd hb, free_T hb]
    have h0 : symL s.symbols = 0 := by rw [← hIi, List.drop_of_length_le hgei]; rfl
    refine tr_for (fun j => ∀ a b x y, b < a → a < j → s.symbols[a]? = some x → s.symbols[b]? = some y → x.name ≠ y.name) (s.symbols.length) (fun j => [(1, .pointer (some ⟨Bd, 0, none⟩)), (34, lst s.symbols), (35, .int .i64 s.symbols.length), (36, .int .i64 j)]) (by simp) (by simp only [go_sem, push_cast, and_pos, Le_updF]) ?_
    intro j Bj hIj hij hBj
    refine vq_conv pok (E := (((((Env.base _).add 47 _ W47_ok).add 22 _ W22_ok).add 48 _ W48_ok).add 49 _ W49_50_ok)) (PL := [(1, [], [], (.k 5 (.grp false 11 15 4 [12, 13, 14, 15] 16 none (.k 4 .nil) .nil)))]) (by kernel_rfl) ?_
    rcases Nat.lt_or_ge j (s.symbols.length) with hltj | hgej
    · have e1 : s.symbols[j]? = some s.symbols[j] := List.getElem?_eq_getElem hltj
      simp (maxSteps := 2000000) (disch := first | assumption | (refine asm_intro ?_; assumption) | exact Nat.le_add_right _ _ | exact Nat.le_refl _ | omega | (simp (disch := first | exact Nat.le_add_right _ _ | omega) only [Le_upd hb, Le_app hb, Le_rfl, free_T hb, free_upd]; done) | fail) only [go_sem, push_cast, and_pos, Le_updF, Le_upd hb, free_T hb, e1, hss]
      refine ⟨fun h => ?_, fun h => ?_⟩
      · intro a b x y h1 h2 h3 h4
        by_cases e : a = j
        · subst e
          rw [e1] at h3; cases h3
          rw [List.getElem?_eq_getElem (by omega)] at h4; cases h4
          exact (((symIdx_self hltj).1 h) b h1).symm
        · exact hIj a b x y h1 (by omega) h3 h4
      · have : ¬ (s.symbols.map (·.name)).Nodup := fun hn => h ((symIdx_self hltj).2 fun k hk e => nodup_map_not (f := (·.name)) hk hltj e.symm hn)
        unfold sigG
        rw [if_neg (by simp [h0]), if_pos this]
    · simp (maxSteps := 2000000) (disch := first | assumption | (refine asm_intro ?_; assumption) | exact Nat.le_add_right _ _ | exact Nat.le_refl _ | omega | (simp (disch := first | exact Nat.le_add_right _ _ | omega) only [Le_upd hb, Le_app hb, Le_rfl, free_T hb, free_upd]; done) | fail) only [go_sem, push_cast, and_pos, Le_updF, Le_upd hb, free_T hb]
      refine vq_conv pok (E := (((((Env.base _).add 47 _ W47_ok).add 22 _ W22_ok).add 48 _ W48_ok).add 49 _ W49_50_ok)) (PL := [(1, [], [], (.k 5 (.grp false 11 15 4 [12, 13, 14, 15] 16 none (.k 4 .nil) .nil)))]) (by kernel_rfl) ?_
      simp (maxSteps := 2000000) (disch := first | assumption | (refine asm_intro ?_; assumption) | exact Nat.le_add_right _ _ | exact Nat.le_refl _ | omega | (simp (disch := first | exact Nat.le_add_right _ _ | omega) only [Le_upd hb, Le_app hb, Le_rfl, free_T hb, free_upd]; done) | fail) only [go_sem, push_cast, and_pos, Le_updF, Le_upd hb, free_T hb, hpre]
      have h7 : (s.symbols.map (·.name)).Nodup := nodup_map fun i j x y h1 h2 h3 h4 => hIj i j x y h1 (by omega) h3 h4
      unfold sigG
      rw [if_neg (by simp [h0]), if_neg (by simp [h7])]
      all_goals first | done | trivial | ((try simp only [Cnp, Imp]); grind)

end Go.Proofs.YtliijoclogakdaaGreatDoor
