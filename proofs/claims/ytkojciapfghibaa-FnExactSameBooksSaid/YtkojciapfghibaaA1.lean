/- YtkojciapfghibaaA1 -/
import Derived.Test.YtkojciapfghibaaFacts
set_option linter.unusedSimpArgs false
set_option linter.unusedVariables false
set_option maxRecDepth 20000
namespace Go.Proofs.Ytkojciapfghibaa
open Go Go.SC
def W33 : Trans := fun args H Bd K => ∃ (xs : List Int) (left : Int), args = [lst (xs), .int .i64 (left)] ∧ ((sm xs ∧ -1 ≤ left ∧ left ≤ 1048576) ∧ K (.int .i64 (szP (tot xs) left)) H Bd)
@[go_sem ↓] theorem W33_eq (xs : List Int) (left : Int) (H : AH) (Bd : Nat) (K : Value → AH → Nat → Prop) : W33 [lst (xs), .int .i64 (left)] H Bd K = ((sm xs ∧ -1 ≤ left ∧ left ≤ 1048576) ∧ K (.int .i64 (szP (tot xs) left)) H Bd) := by
  refine propext ⟨fun h => ?_, fun h => ⟨_, _, rfl, h⟩⟩
  obtain ⟨xs', left', e, h⟩ := h
  skip
  skip
  simp only [List.cons.injEq, Value.agg.injEq, toArr_inj, Value.int.injEq, Value.bool.injEq, Value.string.injEq, Value.slice.injEq, Value.pointer.injEq, Option.some.injEq, Addr.mk.injEq, lst_inj, true_and, and_true] at e
  obtain ⟨rfl, rfl⟩ := e
  exact h
theorem W33_ok : ∀ args H Bd K, W33 args H Bd K → SCalls Try.prog 33 args H Bd K := by
  rintro args H Bd K ⟨xs, left, rfl, hpre, hK⟩
  refine fn_pure pok (Env.base _) [] _ hK Try.func33 rfl (rs := [.tmp 4]) rfl Try.ntmps33 (by simp) Try.call33 (by kernel_rfl) (fun ha hb => .int _ _) (fun hb ha => ?_)
  obtain ⟨h1, h2, h3⟩ := hpre
  have hlen := sm_len h1
  have e : tot xs = xs.length := by simp
  rw [e]
  simp (maxSteps := 2000000) (disch := first | assumption | (refine asm_intro ?_; assumption) | exact Nat.le_add_right _ _ | exact Nat.le_refl _ | omega | (simp (disch := first | exact Nat.le_add_right _ _ | omega) only [Le_upd hb, Le_rfl, free_T hb]; done) | fail) only [go_sem, push_cast, and_pos, Le_upd hb, free_T hb]
  unfold szP
  exact Cnp.of (fun h => by rw [if_pos h]) (fun h => by rw [if_neg h])
def W55 : Trans := fun args H Bd K => ∃ (x : GEquation) (left : Int), args = [.agg (enc (x)).toArray, .int .i64 (left)] ∧ ((sm x ∧ 0 ≤ left ∧ left ≤ 1048576) ∧ K (.int .i64 (szP (tot x) left)) H Bd)
@[go_sem ↓] theorem W55_eq (x_left : List Int) (x_right : List Int) (left : Int) (H : AH) (Bd : Nat) (K : Value → AH → Nat → Prop) : W55 [.agg #[lst (x_left), lst (x_right)], .int .i64 (left)] H Bd K = ((sm (GEquation.mk x_left x_right) ∧ 0 ≤ left ∧ left ≤ 1048576) ∧ K (.int .i64 (szP (tot (GEquation.mk x_left x_right)) left)) H Bd) := by
  refine propext ⟨fun h => ?_, fun h => ⟨_, _, rfl, h⟩⟩
  obtain ⟨x', left', e, h⟩ := h
  obtain ⟨xleft', xright'⟩ := x'
  skip
  simp only [enc_GEquation, List.cons.injEq, Value.agg.injEq, toArr_inj, Value.int.injEq, Value.bool.injEq, Value.string.injEq, Value.slice.injEq, Value.pointer.injEq, Option.some.injEq, Addr.mk.injEq, lst_inj, true_and, and_true] at e
  obtain ⟨⟨rfl, rfl⟩, rfl⟩ := e
  exact h
theorem W55_ok : ∀ args H Bd K, W55 args H Bd K → SCalls Try.prog 55 args H Bd K := by
  rintro args H Bd K ⟨x, left, rfl, hpre, hK⟩
  refine fn_pure pok ((Env.base _).add 33 W33 W33_ok) [] _ hK Try.func55 rfl (rs := [.tmp 4]) rfl Try.ntmps55 (by simp) Try.call55 (by kernel_rfl) (fun ha hb => .int _ _) (fun hb ha => ?_)
  obtain ⟨h1, h2, h3⟩ := hpre
  simp only [sm_GEquation, sm_str] at h1
  have q0 := h3
  have q1 := szP_ub (tot x.left) (left := left) (by omega)
  have q2 := szP_ub (tot x.right) (left := szP (tot x.left) (left)) (by omega)
  have ez : tot x = tot x.left + (tot x.right) := by simp [tot_GEquation]
  rw [ez]
  simp (maxSteps := 2000000) (disch := first | assumption | (refine asm_intro ?_; assumption) | exact Nat.le_add_right _ _ | exact Nat.le_refl _ | omega | (simp (disch := first | exact Nat.le_add_right _ _ | omega) only [Le_upd hb, Le_rfl, free_T hb]; done) | fail) only [go_sem, push_cast, and_pos, Le_upd hb, free_T hb, h1]
  refine szP_go (fun e => e.symm) (fun e => ?_)
  rw [e]
  first | exact szP_last | exact szP_lastT
def W34 : Trans := fun args H Bd K => ∃ (xs : List GEquation) (left : Int), args = [lst (xs), .int .i64 (left)] ∧ ((sm xs ∧ 0 ≤ left ∧ left ≤ 1048576) ∧ K (.int .i64 (szP (tot xs) left)) H Bd)
@[go_sem ↓] theorem W34_eq (xs : List GEquation) (left : Int) (H : AH) (Bd : Nat) (K : Value → AH → Nat → Prop) : W34 [lst (xs), .int .i64 (left)] H Bd K = ((sm xs ∧ 0 ≤ left ∧ left ≤ 1048576) ∧ K (.int .i64 (szP (tot xs) left)) H Bd) := by
  refine propext ⟨fun h => ?_, fun h => ⟨_, _, rfl, h⟩⟩
  obtain ⟨xs', left', e, h⟩ := h
  skip
  skip
  simp only [List.cons.injEq, Value.agg.injEq, toArr_inj, Value.int.injEq, Value.bool.injEq, Value.string.injEq, Value.slice.injEq, Value.pointer.injEq, Option.some.injEq, Addr.mk.injEq, lst_inj, true_and, and_true] at e
  obtain ⟨rfl, rfl⟩ := e
  exact h
theorem W34_ok : ∀ args H Bd K, W34 args H Bd K → SCalls Try.prog 34 args H Bd K := by
  rintro args H Bd K ⟨xs, left, rfl, hpre, hK⟩
  refine fn_pure pok ((Env.base _).add 55 W55 W55_ok) [] _ hK Try.func34 rfl (rs := [.tmp 4]) rfl Try.ntmps34 (by simp) Try.call34 (by kernel_rfl) (fun ha hb => .int _ _) (fun hb ha => ?_)
  obtain ⟨h1, h2, h3⟩ := hpre
  have hlen := sm_len h1
  have e : tot xs = xs.length + (xs.map tot).sum := tot_list xs
  simp (maxSteps := 2000000) (disch := first | assumption | (refine asm_intro ?_; assumption) | exact Nat.le_add_right _ _ | exact Nat.le_refl _ | omega | (simp (disch := first | exact Nat.le_add_right _ _ | omega) only [Le_upd hb, Le_rfl, free_T hb]; done) | fail) only [go_sem, push_cast, and_pos, Le_upd hb, free_T hb]
  refine Cnp.of (fun h => by rw [e, szP_neg h]) (fun h => ?_)
  refine tr_for (fun i => 0 ≤ left - xs.length - totTo xs i) xs.length (fun i => [(0, lst xs), (1, .int .i64 (left - xs.length - totTo xs i)), (5, .int .i64 i)]) (by simp; omega) (by simp only [go_sem, push_cast, and_pos, totTo_zero, Int.sub_zero]) ?_
  intro i B0 hI hi hB
  refine vq_conv pok (E := ((Env.base _).add 55 W55 W55_ok)) (PL := []) (by kernel_rfl) ?_
  rcases Nat.lt_or_ge i xs.length with hlt | hge
  · have e1 : xs[i]? = some xs[i] := List.getElem?_eq_getElem hlt
    have hx := sm_mem h1 (List.getElem_mem hlt)
    have hst := totTo_succ xs hlt
    skip
    simp (maxSteps := 2000000) (disch := first | assumption | (refine asm_intro ?_; assumption) | exact Nat.le_add_right _ _ | exact Nat.le_refl _ | omega | (simp (disch := first | exact Nat.le_add_right _ _ | omega) only [Le_upd hb, Le_rfl, free_T hb]; done) | fail) only [go_sem, push_cast, and_pos, Le_upd hb, free_T hb, e1, hx]
    exact sz_step hlt hI
  · simp (maxSteps := 2000000) (disch := first | assumption | (refine asm_intro ?_; assumption) | exact Nat.le_add_right _ _ | exact Nat.le_refl _ | omega | (simp (disch := first | exact Nat.le_add_right _ _ | omega) only [Le_upd hb, Le_rfl, free_T hb]; done) | fail) only [go_sem, push_cast, and_pos, Le_upd hb, free_T hb]
    refine vq_conv pok (E := ((Env.base _).add 55 W55 W55_ok)) (PL := []) (by kernel_rfl) ?_
    simp (maxSteps := 2000000) (disch := first | assumption | (refine asm_intro ?_; assumption) | exact Nat.le_add_right _ _ | exact Nat.le_refl _ | omega | (simp (disch := first | exact Nat.le_add_right _ _ | omega) only [Le_upd hb, Le_rfl, free_T hb]; done) | fail) only [go_sem, push_cast, and_pos, Le_upd hb, free_T hb]
    exact sz_end hge hI
def W15 : Trans := fun args H Bd K => ∃ (x : GOp) (left : Int), args = [.agg (enc (x)).toArray, .int .i64 (left)] ∧ ((sm x ∧ 0 ≤ left ∧ left ≤ 1048576) ∧ K (.int .i64 (szP (tot x) left)) H Bd)
@[go_sem ↓] theorem W15_eq (x_kind : Int) (x_term : List Int) (x_value : Int) (x_n : Int) (x_order : List Int) (x_equations : List GEquation) (left : Int) (H : AH) (Bd : Nat) (K : Value → AH → Nat → Prop) : W15 [.agg #[.int .i64 (x_kind), lst (x_term), .int .i64 (x_value), .int .i64 (x_n), lst (x_order), lst (x_equations)], .int .i64 (left)] H Bd K = ((sm (GOp.mk x_kind x_term x_value x_n x_order x_equations) ∧ 0 ≤ left ∧ left ≤ 1048576) ∧ K (.int .i64 (szP (tot (GOp.mk x_kind x_term x_value x_n x_order x_equations)) left)) H Bd) := by
  refine propext ⟨fun h => ?_, fun h => ⟨_, _, rfl, h⟩⟩
  obtain ⟨x', left', e, h⟩ := h
  obtain ⟨xkind', xterm', xvalue', xn', xorder', xequations'⟩ := x'
  skip
  simp only [enc_GOp, List.cons.injEq, Value.agg.injEq, toArr_inj, Value.int.injEq, Value.bool.injEq, Value.string.injEq, Value.slice.injEq, Value.pointer.injEq, Option.some.injEq, Addr.mk.injEq, lst_inj, true_and, and_true] at e
  obtain ⟨⟨rfl, rfl, rfl, rfl, rfl, rfl⟩, rfl⟩ := e
  exact h
theorem W15_ok : ∀ args H Bd K, W15 args H Bd K → SCalls Try.prog 15 args H Bd K := by
  rintro args H Bd K ⟨x, left, rfl, hpre, hK⟩
  refine fn_pure pok (((Env.base _).add 33 W33 W33_ok).add 34 W34 W34_ok) [] _ hK Try.func15 rfl (rs := [.tmp 4]) rfl Try.ntmps15 (by simp) Try.call15 (by kernel_rfl) (fun ha hb => .int _ _) (fun hb ha => ?_)
  obtain ⟨h1, h2, h3⟩ := hpre
  simp only [sm_GOp, sm_str] at h1
  have q0 := h3
  have q1 := szP_ub (tot x.term) (left := left) (by omega)
  have q2 := szP_ub (tot x.order) (left := szP (tot x.term) (left)) (by omega)
  have q3 := szP_ub (tot x.equations) (left := szP (tot x.order) (szP (tot x.term) (left))) (by omega)
  have ez : tot x = tot x.term + (tot x.order + (tot x.equations)) := by simp [tot_GOp]; try omega
  rw [ez]
  simp (maxSteps := 2000000) (disch := first | assumption | (refine asm_intro ?_; assumption) | exact Nat.le_add_right _ _ | exact Nat.le_refl _ | omega | (simp (disch := first | exact Nat.le_add_right _ _ | omega) only [Le_upd hb, Le_rfl, free_T hb]; done) | fail) only [go_sem, push_cast, and_pos, Le_upd hb, free_T hb, h1]
  refine szP_go (fun e => e.symm) (fun e => ?_)
  rw [e]
  refine szP_go (fun e => e.symm) (fun e => ?_)
  rw [e]
  first | exact szP_last | exact szP_lastT
def W36 : Trans := fun args H Bd K => ∃ (xs : List Int), args = [lst (xs)] ∧ ((sm xs ∧ tot xs ≤ 1048576) ∧ K (lst (xs)) H Bd)
@[go_sem ↓] theorem W36_eq (xs : List Int) (H : AH) (Bd : Nat) (K : Value → AH → Nat → Prop) : W36 [lst (xs)] H Bd K = ((sm xs ∧ tot xs ≤ 1048576) ∧ K (lst (xs)) H Bd) := by
  refine propext ⟨fun h => ?_, fun h => ⟨_, rfl, h⟩⟩
  obtain ⟨xs', e, h⟩ := h
  skip
  simp only [List.cons.injEq, Value.agg.injEq, toArr_inj, Value.int.injEq, Value.bool.injEq, Value.string.injEq, Value.slice.injEq, Value.pointer.injEq, Option.some.injEq, Addr.mk.injEq, lst_inj, true_and, and_true] at e
  obtain rfl := e
  exact h
theorem W36_ok : ∀ args H Bd K, W36 args H Bd K → SCalls Try.prog 36 args H Bd K := by
  rintro args H Bd K ⟨xs, rfl, hpre, hK⟩
  refine fn_pure pok (Env.base _) [] _ hK Try.func36 rfl (rs := [.tmp 2]) rfl Try.ntmps36 (by simp) Try.call36 (by kernel_rfl) (fun ha hb => lst_nb _ _) (fun hb ha => ?_)
  obtain ⟨h1, h2⟩ := hpre
  have e : tot xs = xs.length + (xs.map tot).sum := tot_list xs
  simp (maxSteps := 2000000) (disch := first | assumption | (refine asm_intro ?_; assumption) | exact Nat.le_add_right _ _ | exact Nat.le_refl _ | omega | (simp (disch := first | exact Nat.le_add_right _ _ | omega) only [Le_upd hb, Le_rfl, free_T hb]; done) | fail) only [go_sem, push_cast, and_pos, Le_upd hb, free_T hb]
  refine tr_fill (α := Int) hb xs (fun i => [(0, lst xs), (3, .slice (some ⟨Bd, 0, some 1⟩) xs.length (xs.length + 1)), (4, .int .i64 i)]) _ (zmake_len _ _) ⟨Nat.le_refl _, by omega⟩ (by simp only [go_sem, push_cast, and_pos]) (Le.refl _) ?_
  intro i L B hi hL hF hB hb'
  refine vq_conv pok (E := (Env.base _)) (PL := []) (by kernel_rfl) ?_
  have hL' : L.length = xs.length * 1 := hL
  rcases Nat.lt_or_ge i xs.length with hlt | hge
  · have e1 : xs[i]? = some xs[i] := List.getElem?_eq_getElem hlt
    have hx := sm_mem h1 (List.getElem_mem hlt)
    have hx2 : tot xs[i] ≤ (xs.map tot).sum := tot_mem hlt
    simp (maxSteps := 2000000) (disch := first | assumption | (refine asm_intro ?_; assumption) | exact Nat.le_add_right _ _ | exact Nat.le_refl _ | omega | (simp (disch := first | exact Nat.le_add_right _ _ | omega) only [Le_upd hb, Le_rfl, free_T hb]; done) | fail) only [go_sem, push_cast, and_pos, Le_upd hb, free_T hb, e1, hx]
    exact ⟨_, rfl, Le.refl _⟩
  · simp (maxSteps := 2000000) (disch := first | assumption | (refine asm_intro ?_; assumption) | exact Nat.le_add_right _ _ | exact Nat.le_refl _ | omega | (simp (disch := first | exact Nat.le_add_right _ _ | omega) only [Le_upd hb, Le_rfl, free_T hb]; done) | fail) only [go_sem, push_cast, and_pos, Le_upd hb, free_T hb]
    have hf : L = flat xs := by
      rw [List.take_of_length_le (by rw [hL]; exact Nat.mul_le_mul_right _ hge), List.take_of_length_le hge] at hF
      exact hF
    subst hf
    refine Tr.fin hb 3 (Nat.le_refl Bd) (by simp only [go_sem, push_cast, and_pos]; rfl) rfl ?_
    refine vq_conv pok (E := (Env.base _)) (PL := []) (by kernel_rfl) ?_
    simp (maxSteps := 2000000) (disch := first | assumption | (refine asm_intro ?_; assumption) | exact Nat.le_add_right _ _ | exact Nat.le_refl _ | omega | (simp (disch := first | exact Nat.le_add_right _ _ | omega) only [Le_upd hb, Le_rfl, free_T hb]; done) | fail) only [go_sem, push_cast, and_pos, Le_upd hb, free_T hb]
def W56 : Trans := fun args H Bd K => ∃ (x : GEquation), args = [.agg (enc (x)).toArray] ∧ ((sm x ∧ tot x ≤ 1048576) ∧ K (.agg (enc (x)).toArray) H Bd)
@[go_sem ↓] theorem W56_eq (x_left : List Int) (x_right : List Int) (H : AH) (Bd : Nat) (K : Value → AH → Nat → Prop) : W56 [.agg #[lst (x_left), lst (x_right)]] H Bd K = ((sm (GEquation.mk x_left x_right) ∧ tot (GEquation.mk x_left x_right) ≤ 1048576) ∧ K (.agg (enc ((GEquation.mk x_left x_right))).toArray) H Bd) := by
  refine propext ⟨fun h => ?_, fun h => ⟨_, rfl, h⟩⟩
  obtain ⟨x', e, h⟩ := h
  obtain ⟨xleft', xright'⟩ := x'
  simp only [enc_GEquation, List.cons.injEq, Value.agg.injEq, toArr_inj, Value.int.injEq, Value.bool.injEq, Value.string.injEq, Value.slice.injEq, Value.pointer.injEq, Option.some.injEq, Addr.mk.injEq, lst_inj, true_and, and_true] at e
  obtain ⟨rfl, rfl⟩ := e
  exact h
theorem W56_ok : ∀ args H Bd K, W56 args H Bd K → SCalls Try.prog 56 args H Bd K := by
  rintro args H Bd K ⟨x, rfl, hpre, hK⟩
  refine fn_pure pok ((Env.base _).add 36 W36 W36_ok) [] _ hK Try.func56 rfl (rs := [.cell 2 92]) rfl Try.ntmps56 (by simp) Try.call56 (by kernel_rfl) (fun ha hb => agg_nb _ _) (fun hb ha => ?_)
  obtain ⟨h1, h2⟩ := hpre
  simp only [sm_GEquation] at h1
  simp only [tot_GEquation] at h2
  simp (maxSteps := 2000000) (disch := first | assumption | (refine asm_intro ?_; assumption) | exact Nat.le_add_right _ _ | exact Nat.le_refl _ | omega | (simp (disch := first | exact Nat.le_add_right _ _ | omega) only [Le_upd hb, Le_rfl, free_T hb]; done) | fail) only [go_sem, push_cast, and_pos, Le_upd hb, free_T hb, h1]
def W37 : Trans := fun args H Bd K => ∃ (xs : List GEquation), args = [lst (xs)] ∧ ((sm xs ∧ tot xs ≤ 1048576) ∧ K (lst (xs)) H Bd)
@[go_sem ↓] theorem W37_eq (xs : List GEquation) (H : AH) (Bd : Nat) (K : Value → AH → Nat → Prop) : W37 [lst (xs)] H Bd K = ((sm xs ∧ tot xs ≤ 1048576) ∧ K (lst (xs)) H Bd) := by
  refine propext ⟨fun h => ?_, fun h => ⟨_, rfl, h⟩⟩
  obtain ⟨xs', e, h⟩ := h
  skip
  simp only [List.cons.injEq, Value.agg.injEq, toArr_inj, Value.int.injEq, Value.bool.injEq, Value.string.injEq, Value.slice.injEq, Value.pointer.injEq, Option.some.injEq, Addr.mk.injEq, lst_inj, true_and, and_true] at e
  obtain rfl := e
  exact h
theorem W37_ok : ∀ args H Bd K, W37 args H Bd K → SCalls Try.prog 37 args H Bd K := by
  rintro args H Bd K ⟨xs, rfl, hpre, hK⟩
  refine fn_pure pok ((Env.base _).add 56 W56 W56_ok) [] _ hK Try.func37 rfl (rs := [.tmp 2]) rfl Try.ntmps37 (by simp) Try.call37 (by kernel_rfl) (fun ha hb => lst_nb _ _) (fun hb ha => ?_)
  obtain ⟨h1, h2⟩ := hpre
  have e : tot xs = xs.length + (xs.map tot).sum := tot_list xs
  simp (maxSteps := 2000000) (disch := first | assumption | (refine asm_intro ?_; assumption) | exact Nat.le_add_right _ _ | exact Nat.le_refl _ | omega | (simp (disch := first | exact Nat.le_add_right _ _ | omega) only [Le_upd hb, Le_rfl, free_T hb]; done) | fail) only [go_sem, push_cast, and_pos, Le_upd hb, free_T hb]
  refine tr_fill (α := GEquation) hb xs (fun i => [(0, lst xs), (3, .slice (some ⟨Bd, 0, some 2⟩) xs.length (xs.length + 1)), (4, .int .i64 i)]) _ (zmake_len _ _) ⟨Nat.le_refl _, by omega⟩ (by simp only [go_sem, push_cast, and_pos]) (Le.refl _) ?_
  intro i L B hi hL hF hB hb'
  refine vq_conv pok (E := ((Env.base _).add 56 W56 W56_ok)) (PL := []) (by kernel_rfl) ?_
  have hL' : L.length = xs.length * 2 := hL
  rcases Nat.lt_or_ge i xs.length with hlt | hge
  · have e1 : xs[i]? = some xs[i] := List.getElem?_eq_getElem hlt
    have hx := sm_mem h1 (List.getElem_mem hlt)
    have hx2 : tot xs[i] ≤ (xs.map tot).sum := tot_mem hlt
    simp (maxSteps := 2000000) (disch := first | assumption | (refine asm_intro ?_; assumption) | exact Nat.le_add_right _ _ | exact Nat.le_refl _ | omega | (simp (disch := first | exact Nat.le_add_right _ _ | omega) only [Le_upd hb, Le_rfl, free_T hb]; done) | fail) only [go_sem, push_cast, and_pos, Le_upd hb, free_T hb, e1, hx]
    exact ⟨_, rfl, Le.refl _⟩
  · simp (maxSteps := 2000000) (disch := first | assumption | (refine asm_intro ?_; assumption) | exact Nat.le_add_right _ _ | exact Nat.le_refl _ | omega | (simp (disch := first | exact Nat.le_add_right _ _ | omega) only [Le_upd hb, Le_rfl, free_T hb]; done) | fail) only [go_sem, push_cast, and_pos, Le_upd hb, free_T hb]
    have hf : L = flat xs := by
      rw [List.take_of_length_le (by rw [hL]; exact Nat.mul_le_mul_right _ hge), List.take_of_length_le hge] at hF
      exact hF
    subst hf
    refine Tr.fin hb 3 (Nat.le_refl Bd) (by simp only [go_sem, push_cast, and_pos]; rfl) rfl ?_
    refine vq_conv pok (E := ((Env.base _).add 56 W56 W56_ok)) (PL := []) (by kernel_rfl) ?_
    simp (maxSteps := 2000000) (disch := first | assumption | (refine asm_intro ?_; assumption) | exact Nat.le_add_right _ _ | exact Nat.le_refl _ | omega | (simp (disch := first | exact Nat.le_add_right _ _ | omega) only [Le_upd hb, Le_rfl, free_T hb]; done) | fail) only [go_sem, push_cast, and_pos, Le_upd hb, free_T hb]
def W17 : Trans := fun args H Bd K => ∃ (x : GOp), args = [.agg (enc (x)).toArray] ∧ ((sm x ∧ tot x ≤ 1048576) ∧ K (.agg (enc (x)).toArray) H Bd)
@[go_sem ↓] theorem W17_eq (x_kind : Int) (x_term : List Int) (x_value : Int) (x_n : Int) (x_order : List Int) (x_equations : List GEquation) (H : AH) (Bd : Nat) (K : Value → AH → Nat → Prop) : W17 [.agg #[.int .i64 (x_kind), lst (x_term), .int .i64 (x_value), .int .i64 (x_n), lst (x_order), lst (x_equations)]] H Bd K = ((sm (GOp.mk x_kind x_term x_value x_n x_order x_equations) ∧ tot (GOp.mk x_kind x_term x_value x_n x_order x_equations) ≤ 1048576) ∧ K (.agg (enc ((GOp.mk x_kind x_term x_value x_n x_order x_equations))).toArray) H Bd) := by
  refine propext ⟨fun h => ?_, fun h => ⟨_, rfl, h⟩⟩
  obtain ⟨x', e, h⟩ := h
  obtain ⟨xkind', xterm', xvalue', xn', xorder', xequations'⟩ := x'
  simp only [enc_GOp, List.cons.injEq, Value.agg.injEq, toArr_inj, Value.int.injEq, Value.bool.injEq, Value.string.injEq, Value.slice.injEq, Value.pointer.injEq, Option.some.injEq, Addr.mk.injEq, lst_inj, true_and, and_true] at e
  obtain ⟨rfl, rfl, rfl, rfl, rfl, rfl⟩ := e
  exact h
theorem W17_ok : ∀ args H Bd K, W17 args H Bd K → SCalls Try.prog 17 args H Bd K := by
  rintro args H Bd K ⟨x, rfl, hpre, hK⟩
  refine fn_pure pok (((Env.base _).add 36 W36 W36_ok).add 37 W37 W37_ok) [] _ hK Try.func17 rfl (rs := [.cell 2 41]) rfl Try.ntmps17 (by simp) Try.call17 (by kernel_rfl) (fun ha hb => agg_nb _ _) (fun hb ha => ?_)
  obtain ⟨h1, h2⟩ := hpre
  simp only [sm_GOp] at h1
  simp only [tot_GOp] at h2
  simp (maxSteps := 2000000) (disch := first | assumption | (refine asm_intro ?_; assumption) | exact Nat.le_add_right _ _ | exact Nat.le_refl _ | omega | (simp (disch := first | exact Nat.le_add_right _ _ | omega) only [Le_upd hb, Le_rfl, free_T hb]; done) | fail) only [go_sem, push_cast, and_pos, Le_upd hb, free_T hb, h1]
def V35 : Trans := fun args H Bd K => ∃ (x : GOp) (t : Bool) (v : Bool) (m : Bool) (r : Bool), args = [.agg (enc (x)).toArray, .bool (t), .bool (v), .bool (m), .bool (r)] ∧ ((sm x) ∧ K (.bool ((t || decide (x.term.length = 0)) && ((v || decide (x.value = 0)) && ((m || decide (x.n = 0)) && (r || (decide (x.order.length = 0) && decide (x.equations.length = 0))))))) H Bd)
@[go_sem ↓] theorem V35_eq (x_kind : Int) (x_term : List Int) (x_value : Int) (x_n : Int) (x_order : List Int) (x_equations : List GEquation) (t : Bool) (v : Bool) (m : Bool) (r : Bool) (H : AH) (Bd : Nat) (K : Value → AH → Nat → Prop) : V35 [.agg #[.int .i64 (x_kind), lst (x_term), .int .i64 (x_value), .int .i64 (x_n), lst (x_order), lst (x_equations)], .bool (t), .bool (v), .bool (m), .bool (r)] H Bd K = ((sm (GOp.mk x_kind x_term x_value x_n x_order x_equations)) ∧ K (.bool ((t || decide ((GOp.mk x_kind x_term x_value x_n x_order x_equations).term.length = 0)) && ((v || decide ((GOp.mk x_kind x_term x_value x_n x_order x_equations).value = 0)) && ((m || decide ((GOp.mk x_kind x_term x_value x_n x_order x_equations).n = 0)) && (r || (decide ((GOp.mk x_kind x_term x_value x_n x_order x_equations).order.length = 0) && decide ((GOp.mk x_kind x_term x_value x_n x_order x_equations).equations.length = 0))))))) H Bd) := by
  refine propext ⟨fun h => ?_, fun h => ⟨_, _, _, _, _, rfl, h⟩⟩
  obtain ⟨x', t', v', m', r', e, h⟩ := h
  obtain ⟨xkind', xterm', xvalue', xn', xorder', xequations'⟩ := x'
  skip
  skip
  skip
  skip
  simp only [enc_GOp, List.cons.injEq, Value.agg.injEq, toArr_inj, Value.int.injEq, Value.bool.injEq, Value.string.injEq, Value.slice.injEq, Value.pointer.injEq, Option.some.injEq, Addr.mk.injEq, lst_inj, true_and, and_true] at e
  obtain ⟨⟨rfl, rfl, rfl, rfl, rfl, rfl⟩, rfl, rfl, rfl, rfl⟩ := e
  exact h
def W35 : Trans := fun args H Bd K => ∃ (px vt vv vm vr : Value), args = [px, vt, vv, vm, vr] ∧ Yld (cellsAt H 6 px) fun cx => callW V35 [.agg cx.toArray, vt, vv, vm, vr] H Bd K
@[go_sem ↓] theorem W35_eq (px vt vv vm vr : Value) (H : AH) (Bd : Nat) (K : Value → AH → Nat → Prop) : W35 [px, vt, vv, vm, vr] H Bd K = (Yld (cellsAt H 6 px) fun cx => callW V35 (idS [.agg cx.toArray, vt, vv, vm, vr]) H Bd K) := by
  refine propext ⟨fun h => ?_, fun h => ⟨_, _, _, _, _, rfl, h⟩⟩
  obtain ⟨px', vt', vv', vm', vr', e, h⟩ := h
  simp only [List.cons.injEq, and_true] at e
  obtain ⟨rfl, rfl, rfl, rfl, rfl⟩ := e
  exact h
set_option maxHeartbeats 4000000 in
theorem W35_ok : ∀ args H Bd K, W35 args H Bd K → SCalls Try.prog 35 args H Bd K := by
  rintro args H Bd K ⟨px, vt, vv, vm, vr, rfl, cx, ex, h⟩
  obtain ⟨x, t, v, m, r, e, hpre, hK⟩ := h
  simp only [List.cons.injEq, and_true] at e
  obtain ⟨Ex, rfl, rfl, rfl, rfl⟩ := e
  obtain rfl := agg_inj Ex
  refine fn_pure pok (Env.base _) [(1, [], [], (.k 2 (.grp false 12 18 6 [13, 14, 15, 16, 17, 18] 19 none (.k 6 .nil) (.k 1 (.grp true 20 28 8 [21, 22, 23, 24, 25, 26, 27, 28] 29 none (.k 2 (.grp false 22 27 5 [23, 24, 25, 26, 27] 28 (some (20, true)) (.k 5 .nil) .nil)) (.k 1 (.grp true 30 38 8 [31, 32, 33, 34, 35, 36, 37, 38] 39 none (.k 2 (.grp false 32 37 5 [33, 34, 35, 36, 37] 38 (some (30, true)) (.k 5 .nil) .nil)) (.k 1 (.grp true 40 57 17 [41, 42, 43, 44, 45, 46, 47, 48, 49, 50, 51, 52, 53, 54, 55, 56, 57] 58 none (.k 2 (.grp false 42 56 14 [43, 44, 45, 46, 47, 48, 49, 50, 51, 52, 53, 54, 55, 56] 57 (some (40, true)) (.k 7 (.grp true 49 55 6 [50, 51, 52, 53, 54, 55] 56 (some (42, false)) (.k 6 .nil) .nil)) .nil)) (.k 1 .nil))))))))))] _ hK Try.func35 rfl (rs := [.tmp 10]) rfl Try.ntmps35 (by simp) Try.call35 (by kernel_rfl) (fun ha hb => .bool _) (fun hb ha => ?_)
  have Px := cellsAt_out ex (NB.vpok (ha px (by simp)))
  simp only [enc_GOp] at Px
  simp only [sm_GOp] at hpre
  simp (maxSteps := 2000000) (disch := first | assumption | (refine asm_intro ?_; assumption) | exact Nat.le_add_right _ _ | exact Nat.le_refl _ | omega | (simp (disch := first | exact Nat.le_add_right _ _ | omega) only [Le_upd hb, Le_rfl, free_T hb]; done) | fail) only [go_sem, push_cast, and_pos, Le_upd hb, free_T hb, Px.nil, Px.fldL (m := 6) rfl, Px.ldL (m := 6) rfl, Px.ld0L (m := 6) rfl, Px.cellsL (m := 6) rfl, Px.cellsOL (m := 6) rfl, hpre]
  all_goals first | done | trivial | ((try simp only [Cnp, Imp]); grind)

def W16 : Trans := fun args H Bd K => ∃ (x : GOp), args = [.agg (enc (x)).toArray] ∧ ((sm x) ∧ K (.int .i64 (opFault x)) H Bd)
@[go_sem ↓] theorem W16_eq (x_kind : Int) (x_term : List Int) (x_value : Int) (x_n : Int) (x_order : List Int) (x_equations : List GEquation) (H : AH) (Bd : Nat) (K : Value → AH → Nat → Prop) : W16 [.agg #[.int .i64 (x_kind), lst (x_term), .int .i64 (x_value), .int .i64 (x_n), lst (x_order), lst (x_equations)]] H Bd K = ((sm (GOp.mk x_kind x_term x_value x_n x_order x_equations)) ∧ K (.int .i64 (opFault (GOp.mk x_kind x_term x_value x_n x_order x_equations))) H Bd) := by
  refine propext ⟨fun h => ?_, fun h => ⟨_, rfl, h⟩⟩
  obtain ⟨x', e, h⟩ := h
  obtain ⟨xkind', xterm', xvalue', xn', xorder', xequations'⟩ := x'
  simp only [enc_GOp, List.cons.injEq, Value.agg.injEq, toArr_inj, Value.int.injEq, Value.bool.injEq, Value.string.injEq, Value.slice.injEq, Value.pointer.injEq, Option.some.injEq, Addr.mk.injEq, lst_inj, true_and, and_true] at e
  obtain ⟨rfl, rfl, rfl, rfl, rfl, rfl⟩ := e
  exact h
theorem W16_ok : ∀ args H Bd K, W16 args H Bd K → SCalls Try.prog 16 args H Bd K := by
  rintro args H Bd K ⟨x, rfl, hpre, hK⟩
  refine fn_pure pok ((Env.base _).add 35 W35 W35_ok) [] _ hK Try.func16 rfl (rs := [.tmp 2]) rfl Try.ntmps16 (by simp) Try.call16 (by kernel_rfl) (fun ha hb => .int _ _) (fun hb ha => ?_)
  have hs := hpre
  simp only [sm_GOp] at hpre
  simp (maxSteps := 2000000) (disch := first | assumption | (refine asm_intro ?_; assumption) | exact Nat.le_add_right _ _ | exact Nat.le_refl _ | omega | (simp (disch := first | exact Nat.le_add_right _ _ | omega) only [Le_upd hb, Le_rfl, free_T hb]; done) | fail) only [go_sem, push_cast, and_pos, Le_upd hb, free_T hb, hpre, hs]
  unfold opFault
  all_goals first | done | trivial | ((try simp only [Cnp, Imp]); grind)

def W18 : Trans := fun args H Bd K => ∃ (x : GOp), args = [.agg (enc (x)).toArray] ∧ ((sm x) ∧ K (.int .i64 (opFault x)) H Bd)
@[go_sem ↓] theorem W18_eq (x_kind : Int) (x_term : List Int) (x_value : Int) (x_n : Int) (x_order : List Int) (x_equations : List GEquation) (H : AH) (Bd : Nat) (K : Value → AH → Nat → Prop) : W18 [.agg #[.int .i64 (x_kind), lst (x_term), .int .i64 (x_value), .int .i64 (x_n), lst (x_order), lst (x_equations)]] H Bd K = ((sm (GOp.mk x_kind x_term x_value x_n x_order x_equations)) ∧ K (.int .i64 (opFault (GOp.mk x_kind x_term x_value x_n x_order x_equations))) H Bd) := by
  refine propext ⟨fun h => ?_, fun h => ⟨_, rfl, h⟩⟩
  obtain ⟨x', e, h⟩ := h
  obtain ⟨xkind', xterm', xvalue', xn', xorder', xequations'⟩ := x'
  simp only [enc_GOp, List.cons.injEq, Value.agg.injEq, toArr_inj, Value.int.injEq, Value.bool.injEq, Value.string.injEq, Value.slice.injEq, Value.pointer.injEq, Option.some.injEq, Addr.mk.injEq, lst_inj, true_and, and_true] at e
  obtain ⟨rfl, rfl, rfl, rfl, rfl, rfl⟩ := e
  exact h
set_option maxHeartbeats 4000000 in
theorem W18_ok : ∀ args H Bd K, W18 args H Bd K → SCalls Try.prog 18 args H Bd K := by
  rintro args H Bd K ⟨x, rfl, hpre, hK⟩
  refine fn_pure pok (Env.base _) [(5, [0,1,2,3,4,5,6,7], [⟨0, [], []⟩, ⟨1, [], []⟩, ⟨2, [], []⟩, ⟨3, [], []⟩, ⟨4, [], []⟩, ⟨5, [], [3]⟩, ⟨6, [], []⟩, ⟨7, [], []⟩], .nil), (9, [0,1,2,3,4,5,6,7,8,9,10,11], [⟨0, [], []⟩, ⟨1, [], []⟩, ⟨2, [], []⟩, ⟨3, [], []⟩, ⟨4, [], []⟩, ⟨5, [], []⟩, ⟨6, [], []⟩, ⟨7, [], [5,3]⟩, ⟨8, [], []⟩, ⟨9, [], [5]⟩, ⟨10, [], []⟩, ⟨11, [], []⟩], .nil), (14, [], [], (.k 8 (.grp false 48 53 5 [49, 50, 51, 52, 53] 54 none (.k 5 .nil) (.k 1 (.grp false 55 60 5 [56, 57, 58, 59, 60] 61 none (.k 5 .nil) (.k 1 (.grp false 62 69 7 [63, 64, 65, 66, 67, 68, 69] 70 none (.k 7 .nil) (.k 1 (.grp false 71 78 7 [72, 73, 74, 75, 76, 77, 78] 79 none (.k 7 .nil) .nil)))))))))] _ hK Try.func18 rfl (rs := [.tmp 2]) rfl Try.ntmps18 (by simp) Try.call18 (by kernel_rfl) (fun ha hb => .int _ _) (fun hb ha => ?_)
  have hs := hpre
  simp only [sm_GOp] at hpre
  simp (maxSteps := 2000000) (disch := first | assumption | (refine asm_intro ?_; assumption) | exact Nat.le_add_right _ _ | exact Nat.le_refl _ | omega | (simp (disch := first | exact Nat.le_add_right _ _ | omega) only [Le_upd hb, Le_rfl, free_T hb]; done) | fail) only [go_sem, push_cast, and_pos, Le_upd hb, free_T hb, hpre, hs]
  unfold opFault
  all_goals first | done | trivial | ((try simp only [Cnp, Imp]); grind)

def W38 : Trans := fun args H Bd K => ∃ (xs : List Int) (ys : List Int), args = [lst (xs), lst (ys)] ∧ ((sm xs) ∧ K (.bool (decide (xs = ys))) H Bd)
@[go_sem ↓] theorem W38_eq (xs : List Int) (ys : List Int) (H : AH) (Bd : Nat) (K : Value → AH → Nat → Prop) : W38 [lst (xs), lst (ys)] H Bd K = ((sm xs) ∧ K (.bool (decide (xs = ys))) H Bd) := by
  refine propext ⟨fun h => ?_, fun h => ⟨_, _, rfl, h⟩⟩
  obtain ⟨xs', ys', e, h⟩ := h
  skip
  skip
  simp only [List.cons.injEq, Value.agg.injEq, toArr_inj, Value.int.injEq, Value.bool.injEq, Value.string.injEq, Value.slice.injEq, Value.pointer.injEq, Option.some.injEq, Addr.mk.injEq, lst_inj, true_and, and_true] at e
  obtain ⟨rfl, rfl⟩ := e
  exact h
theorem W38_ok : ∀ args H Bd K, W38 args H Bd K → SCalls Try.prog 38 args H Bd K := by
  rintro args H Bd K ⟨xs, ys, rfl, hpre, hK⟩
  refine fn_pure pok (Env.base _) [(6, [0,1,2,3,4,5,6,7,8], [⟨0, [], []⟩, ⟨1, [], []⟩, ⟨2, [], []⟩, ⟨3, [], []⟩, ⟨4, [], []⟩, ⟨5, [], []⟩, ⟨6, [], []⟩, ⟨7, [], []⟩, ⟨8, [], []⟩], .nil)] _ hK Try.func38 rfl (rs := [.tmp 4]) rfl Try.ntmps38 (by simp) Try.call38 (by kernel_rfl) (fun ha hb => .bool _) (fun hb ha => ?_)
  have hlen := sm_len hpre
  simp (maxSteps := 2000000) (disch := first | assumption | (refine asm_intro ?_; assumption) | exact Nat.le_add_right _ _ | exact Nat.le_refl _ | omega | (simp (disch := first | exact Nat.le_add_right _ _ | omega) only [Le_upd hb, Le_rfl, free_T hb]; done) | fail) only [go_sem, push_cast, and_pos, Le_upd hb, free_T hb]
  refine Cnp.of (fun hl => ?_) (fun hl => cmp_len (by omega))
  have hl' : xs.length = ys.length := by omega
  refine tr_for (fun i => ∀ j, j < i → xs[j]? = ys[j]?) xs.length (fun i => [(0, lst xs), (1, lst ys), (5, .int .i64 i)]) (fun j h => by omega) (by simp only [go_sem, push_cast, and_pos]) ?_
  intro i B0 hI hi hB
  refine vq_conv pok (E := (Env.base _)) (PL := [(6, [0,1,2,3,4,5,6,7,8], [⟨0, [], []⟩, ⟨1, [], []⟩, ⟨2, [], []⟩, ⟨3, [], []⟩, ⟨4, [], []⟩, ⟨5, [], []⟩, ⟨6, [], []⟩, ⟨7, [], []⟩, ⟨8, [], []⟩], .nil)]) (by kernel_rfl) ?_
  rcases Nat.lt_or_ge i xs.length with hlt | hge
  · have e1 : xs[i]? = some xs[i] := List.getElem?_eq_getElem hlt
    have e2 : ys[i]? = some (ys[i]'(by omega)) := List.getElem?_eq_getElem _
    have hx := sm_mem hpre (List.getElem_mem hlt)
    simp (maxSteps := 2000000) (disch := first | assumption | (refine asm_intro ?_; assumption) | exact Nat.le_add_right _ _ | exact Nat.le_refl _ | omega | (simp (disch := first | exact Nat.le_add_right _ _ | omega) only [Le_upd hb, Le_rfl, free_T hb]; done) | fail) only [go_sem, push_cast, and_pos, Le_upd hb, free_T hb, e1, e2, hx]
    exact cmp_step hl' hI hlt (by omega) rfl fun h => h
  · simp (maxSteps := 2000000) (disch := first | assumption | (refine asm_intro ?_; assumption) | exact Nat.le_add_right _ _ | exact Nat.le_refl _ | omega | (simp (disch := first | exact Nat.le_add_right _ _ | omega) only [Le_upd hb, Le_rfl, free_T hb]; done) | fail) only [go_sem, push_cast, and_pos, Le_upd hb, free_T hb]
    refine vq_conv pok (E := (Env.base _)) (PL := [(6, [0,1,2,3,4,5,6,7,8], [⟨0, [], []⟩, ⟨1, [], []⟩, ⟨2, [], []⟩, ⟨3, [], []⟩, ⟨4, [], []⟩, ⟨5, [], []⟩, ⟨6, [], []⟩, ⟨7, [], []⟩, ⟨8, [], []⟩], .nil)]) (by kernel_rfl) ?_
    simp (maxSteps := 2000000) (disch := first | assumption | (refine asm_intro ?_; assumption) | exact Nat.le_add_right _ _ | exact Nat.le_refl _ | omega | (simp (disch := first | exact Nat.le_add_right _ _ | omega) only [Le_upd hb, Le_rfl, free_T hb]; done) | fail) only [go_sem, push_cast, and_pos, Le_upd hb, free_T hb]
    exact cmp_end hl' hI hge

def W57 : Trans := fun args H Bd K => ∃ (x : GEquation) (y : GEquation), args = [.agg (enc (x)).toArray, .agg (enc (y)).toArray] ∧ ((sm x) ∧ K (.bool (decide (x = y))) H Bd)
@[go_sem ↓] theorem W57_eq (x_left : List Int) (x_right : List Int) (y_left : List Int) (y_right : List Int) (H : AH) (Bd : Nat) (K : Value → AH → Nat → Prop) : W57 [.agg #[lst (x_left), lst (x_right)], .agg #[lst (y_left), lst (y_right)]] H Bd K = ((sm (GEquation.mk x_left x_right)) ∧ K (.bool (decide ((GEquation.mk x_left x_right) = (GEquation.mk y_left y_right)))) H Bd) := by
  refine propext ⟨fun h => ?_, fun h => ⟨_, _, rfl, h⟩⟩
  obtain ⟨x', y', e, h⟩ := h
  obtain ⟨xleft', xright'⟩ := x'
  obtain ⟨yleft', yright'⟩ := y'
  simp only [enc_GEquation, List.cons.injEq, Value.agg.injEq, toArr_inj, Value.int.injEq, Value.bool.injEq, Value.string.injEq, Value.slice.injEq, Value.pointer.injEq, Option.some.injEq, Addr.mk.injEq, lst_inj, true_and, and_true] at e
  obtain ⟨⟨rfl, rfl⟩, ⟨rfl, rfl⟩⟩ := e
  exact h
theorem W57_ok : ∀ args H Bd K, W57 args H Bd K → SCalls Try.prog 57 args H Bd K := by
  rintro args H Bd K ⟨x, y, rfl, hpre, hK⟩
  refine fn_pure pok ((Env.base _).add 38 W38 W38_ok) [] _ hK Try.func57 rfl (rs := [.tmp 4]) rfl Try.ntmps57 (by simp) Try.call57 (by kernel_rfl) (fun ha hb => .bool _) (fun hb ha => ?_)
  simp only [sm_GEquation] at hpre
  simp (maxSteps := 2000000) (disch := first | assumption | (refine asm_intro ?_; assumption) | exact Nat.le_add_right _ _ | exact Nat.le_refl _ | omega | (simp (disch := first | exact Nat.le_add_right _ _ | omega) only [Le_upd hb, Le_rfl, free_T hb]; done) | fail) only [go_sem, push_cast, and_pos, Le_upd hb, free_T hb, hpre]
  cases x; cases y
  simp only [Cnp, GEquation.mk.injEq]
  constructor <;> intros <;> simp_all

def W39 : Trans := fun args H Bd K => ∃ (xs : List GEquation) (ys : List GEquation), args = [lst (xs), lst (ys)] ∧ ((sm xs) ∧ K (.bool (decide (xs = ys))) H Bd)
@[go_sem ↓] theorem W39_eq (xs : List GEquation) (ys : List GEquation) (H : AH) (Bd : Nat) (K : Value → AH → Nat → Prop) : W39 [lst (xs), lst (ys)] H Bd K = ((sm xs) ∧ K (.bool (decide (xs = ys))) H Bd) := by
  refine propext ⟨fun h => ?_, fun h => ⟨_, _, rfl, h⟩⟩
  obtain ⟨xs', ys', e, h⟩ := h
  skip
  skip
  simp only [List.cons.injEq, Value.agg.injEq, toArr_inj, Value.int.injEq, Value.bool.injEq, Value.string.injEq, Value.slice.injEq, Value.pointer.injEq, Option.some.injEq, Addr.mk.injEq, lst_inj, true_and, and_true] at e
  obtain ⟨rfl, rfl⟩ := e
  exact h
theorem W39_ok : ∀ args H Bd K, W39 args H Bd K → SCalls Try.prog 39 args H Bd K := by
  rintro args H Bd K ⟨xs, ys, rfl, hpre, hK⟩
  refine fn_pure pok ((Env.base _).add 57 W57 W57_ok) [(6, [0,1,2,3,4,5,6,7,8,9], [⟨0, [], []⟩, ⟨1, [], []⟩, ⟨2, [], []⟩, ⟨3, [], []⟩, ⟨4, [], []⟩, ⟨5, [], []⟩, ⟨6, [], []⟩, ⟨7, [], []⟩, ⟨8, [], []⟩, ⟨9, [], []⟩], .nil)] _ hK Try.func39 rfl (rs := [.tmp 4]) rfl Try.ntmps39 (by simp) Try.call39 (by kernel_rfl) (fun ha hb => .bool _) (fun hb ha => ?_)
  have hlen := sm_len hpre
  simp (maxSteps := 2000000) (disch := first | assumption | (refine asm_intro ?_; assumption) | exact Nat.le_add_right _ _ | exact Nat.le_refl _ | omega | (simp (disch := first | exact Nat.le_add_right _ _ | omega) only [Le_upd hb, Le_rfl, free_T hb]; done) | fail) only [go_sem, push_cast, and_pos, Le_upd hb, free_T hb]
  refine Cnp.of (fun hl => ?_) (fun hl => cmp_len (by omega))
  have hl' : xs.length = ys.length := by omega
  refine tr_for (fun i => ∀ j, j < i → xs[j]? = ys[j]?) xs.length (fun i => [(0, lst xs), (1, lst ys), (5, .int .i64 i)]) (fun j h => by omega) (by simp only [go_sem, push_cast, and_pos]) ?_
  intro i B0 hI hi hB
  refine vq_conv pok (E := ((Env.base _).add 57 W57 W57_ok)) (PL := [(6, [0,1,2,3,4,5,6,7,8,9], [⟨0, [], []⟩, ⟨1, [], []⟩, ⟨2, [], []⟩, ⟨3, [], []⟩, ⟨4, [], []⟩, ⟨5, [], []⟩, ⟨6, [], []⟩, ⟨7, [], []⟩, ⟨8, [], []⟩, ⟨9, [], []⟩], .nil)]) (by kernel_rfl) ?_
  rcases Nat.lt_or_ge i xs.length with hlt | hge
  · have e1 : xs[i]? = some xs[i] := List.getElem?_eq_getElem hlt
    have e2 : ys[i]? = some (ys[i]'(by omega)) := List.getElem?_eq_getElem _
    have hx := sm_mem hpre (List.getElem_mem hlt)
    simp (maxSteps := 2000000) (disch := first | assumption | (refine asm_intro ?_; assumption) | exact Nat.le_add_right _ _ | exact Nat.le_refl _ | omega | (simp (disch := first | exact Nat.le_add_right _ _ | omega) only [Le_upd hb, Le_rfl, free_T hb]; done) | fail) only [go_sem, push_cast, and_pos, Le_upd hb, free_T hb, e1, e2, hx]
    exact cmp_step hl' hI hlt (by omega) rfl fun h => h
  · simp (maxSteps := 2000000) (disch := first | assumption | (refine asm_intro ?_; assumption) | exact Nat.le_add_right _ _ | exact Nat.le_refl _ | omega | (simp (disch := first | exact Nat.le_add_right _ _ | omega) only [Le_upd hb, Le_rfl, free_T hb]; done) | fail) only [go_sem, push_cast, and_pos, Le_upd hb, free_T hb]
    refine vq_conv pok (E := ((Env.base _).add 57 W57 W57_ok)) (PL := [(6, [0,1,2,3,4,5,6,7,8,9], [⟨0, [], []⟩, ⟨1, [], []⟩, ⟨2, [], []⟩, ⟨3, [], []⟩, ⟨4, [], []⟩, ⟨5, [], []⟩, ⟨6, [], []⟩, ⟨7, [], []⟩, ⟨8, [], []⟩, ⟨9, [], []⟩], .nil)]) (by kernel_rfl) ?_
    simp (maxSteps := 2000000) (disch := first | assumption | (refine asm_intro ?_; assumption) | exact Nat.le_add_right _ _ | exact Nat.le_refl _ | omega | (simp (disch := first | exact Nat.le_add_right _ _ | omega) only [Le_upd hb, Le_rfl, free_T hb]; done) | fail) only [go_sem, push_cast, and_pos, Le_upd hb, free_T hb]
    exact cmp_end hl' hI hge

def W19 : Trans := fun args H Bd K => ∃ (x : GOp) (y : GOp), args = [.agg (enc (x)).toArray, .agg (enc (y)).toArray] ∧ ((sm x) ∧ K (.bool (decide (x = y))) H Bd)
@[go_sem ↓] theorem W19_eq (x_kind : Int) (x_term : List Int) (x_value : Int) (x_n : Int) (x_order : List Int) (x_equations : List GEquation) (y_kind : Int) (y_term : List Int) (y_value : Int) (y_n : Int) (y_order : List Int) (y_equations : List GEquation) (H : AH) (Bd : Nat) (K : Value → AH → Nat → Prop) : W19 [.agg #[.int .i64 (x_kind), lst (x_term), .int .i64 (x_value), .int .i64 (x_n), lst (x_order), lst (x_equations)], .agg #[.int .i64 (y_kind), lst (y_term), .int .i64 (y_value), .int .i64 (y_n), lst (y_order), lst (y_equations)]] H Bd K = ((sm (GOp.mk x_kind x_term x_value x_n x_order x_equations)) ∧ K (.bool (decide ((GOp.mk x_kind x_term x_value x_n x_order x_equations) = (GOp.mk y_kind y_term y_value y_n y_order y_equations)))) H Bd) := by
  refine propext ⟨fun h => ?_, fun h => ⟨_, _, rfl, h⟩⟩
  obtain ⟨x', y', e, h⟩ := h
  obtain ⟨xkind', xterm', xvalue', xn', xorder', xequations'⟩ := x'
  obtain ⟨ykind', yterm', yvalue', yn', yorder', yequations'⟩ := y'
  simp only [enc_GOp, List.cons.injEq, Value.agg.injEq, toArr_inj, Value.int.injEq, Value.bool.injEq, Value.string.injEq, Value.slice.injEq, Value.pointer.injEq, Option.some.injEq, Addr.mk.injEq, lst_inj, true_and, and_true] at e
  obtain ⟨⟨rfl, rfl, rfl, rfl, rfl, rfl⟩, ⟨rfl, rfl, rfl, rfl, rfl, rfl⟩⟩ := e
  exact h
set_option maxHeartbeats 2000000 in
theorem W19_ok : ∀ args H Bd K, W19 args H Bd K → SCalls Try.prog 19 args H Bd K := by
  rintro args H Bd K ⟨x, y, rfl, hpre, hK⟩
  refine fn_pure pok (((Env.base _).add 38 W38 W38_ok).add 39 W39 W39_ok) [] _ hK Try.func19 rfl (rs := [.tmp 4]) rfl Try.ntmps19 (by simp) Try.call19 (by kernel_rfl) (fun ha hb => .bool _) (fun hb ha => ?_)
  simp only [sm_GOp] at hpre
  simp (maxSteps := 2000000) (disch := first | assumption | (refine asm_intro ?_; assumption) | exact Nat.le_add_right _ _ | exact Nat.le_refl _ | omega | (simp (disch := first | exact Nat.le_add_right _ _ | omega) only [Le_upd hb, Le_rfl, free_T hb]; done) | fail) only [go_sem, push_cast, and_pos, Le_upd hb, free_T hb, hpre]
  cases x; cases y
  simp only [Cnp, GOp.mk.injEq]
  constructor <;> intros <;> simp_all

def W5 : Trans := fun args H Bd K => ∃ (x : GOp), args = [.agg (enc (x)).toArray] ∧ ((sm x) ∧ K (.bool (true)) H Bd)
@[go_sem ↓] theorem W5_eq (x_kind : Int) (x_term : List Int) (x_value : Int) (x_n : Int) (x_order : List Int) (x_equations : List GEquation) (H : AH) (Bd : Nat) (K : Value → AH → Nat → Prop) : W5 [.agg #[.int .i64 (x_kind), lst (x_term), .int .i64 (x_value), .int .i64 (x_n), lst (x_order), lst (x_equations)]] H Bd K = ((sm (GOp.mk x_kind x_term x_value x_n x_order x_equations)) ∧ K (.bool (true)) H Bd) := by
  refine propext ⟨fun h => ?_, fun h => ⟨_, rfl, h⟩⟩
  obtain ⟨x', e, h⟩ := h
  obtain ⟨xkind', xterm', xvalue', xn', xorder', xequations'⟩ := x'
  simp only [enc_GOp, List.cons.injEq, Value.agg.injEq, toArr_inj, Value.int.injEq, Value.bool.injEq, Value.string.injEq, Value.slice.injEq, Value.pointer.injEq, Option.some.injEq, Addr.mk.injEq, lst_inj, true_and, and_true] at e
  obtain ⟨rfl, rfl, rfl, rfl, rfl, rfl⟩ := e
  exact h
theorem W5_ok : ∀ args H Bd K, W5 args H Bd K → SCalls Try.prog 5 args H Bd K := by
  rintro args H Bd K ⟨x, rfl, hpre, hK⟩
  refine fn_pure pok ((((((Env.base _).add 15 W15 W15_ok).add 17 W17 W17_ok).add 16 W16 W16_ok).add 18 W18 W18_ok).add 19 W19 W19_ok) [(10, [0,1,2,3,4], [⟨0, [], []⟩, ⟨1, [], []⟩, ⟨2, [], [0]⟩, ⟨3, [], []⟩, ⟨4, [], []⟩], .nil)] _ hK Try.func5 rfl (rs := [.tmp 2]) rfl Try.ntmps5 (by simp) Try.call5 (by kernel_rfl) (fun ha hb => .bool _) (fun hb ha => ?_)
  have hpre2 := hpre
  have z0 := szP_or (tot x) (1048576)
  have y0 := szP_ub (tot x) (left := 1048576) (by omega)
  simp (maxSteps := 2000000) (disch := first | assumption | (refine asm_intro ?_; assumption) | exact Nat.le_add_right _ _ | exact Nat.le_refl _ | omega | (simp (disch := first | exact Nat.le_add_right _ _ | omega) only [Le_upd hb, Le_rfl, free_T hb]; done) | fail) only [go_sem, push_cast, and_pos, Le_upd hb, free_T hb, hpre]
  all_goals (simp only [Cnp]; (repeat' (first | apply And.intro | intro _)) <;> first | trivial | omega)

def W64 : Trans := fun args H Bd K => ∃ (x : GSymbol) (left : Int), args = [.agg (enc (x)).toArray, .int .i64 (left)] ∧ ((sm x ∧ 0 ≤ left ∧ left ≤ 1048576) ∧ K (.int .i64 (szP (tot x) left)) H Bd)
@[go_sem ↓] theorem W64_eq (x_name : ByteArray) (x_arity : Int) (left : Int) (H : AH) (Bd : Nat) (K : Value → AH → Nat → Prop) : W64 [.agg #[.string (x_name), .int .i64 (x_arity)], .int .i64 (left)] H Bd K = ((sm (GSymbol.mk x_name x_arity) ∧ 0 ≤ left ∧ left ≤ 1048576) ∧ K (.int .i64 (szP (tot (GSymbol.mk x_name x_arity)) left)) H Bd) := by
  refine propext ⟨fun h => ?_, fun h => ⟨_, _, rfl, h⟩⟩
  obtain ⟨x', left', e, h⟩ := h
  obtain ⟨xname', xarity'⟩ := x'
  skip
  simp only [enc_GSymbol, List.cons.injEq, Value.agg.injEq, toArr_inj, Value.int.injEq, Value.bool.injEq, Value.string.injEq, Value.slice.injEq, Value.pointer.injEq, Option.some.injEq, Addr.mk.injEq, lst_inj, true_and, and_true] at e
  obtain ⟨⟨rfl, rfl⟩, rfl⟩ := e
  exact h
theorem W64_ok : ∀ args H Bd K, W64 args H Bd K → SCalls Try.prog 64 args H Bd K := by
  rintro args H Bd K ⟨x, left, rfl, hpre, hK⟩
  refine fn_pure pok (Env.base _) [] _ hK Try.func64 rfl (rs := [.tmp 4]) rfl Try.ntmps64 (by simp) Try.call64 (by kernel_rfl) (fun ha hb => .int _ _) (fun hb ha => ?_)
  obtain ⟨h1, h2, h3⟩ := hpre
  simp only [sm_GSymbol, sm_str] at h1
  have q0 := h3
  have z0 : tot x.name = x.name.size := rfl
  have ez : tot x = tot x.name := by simp [tot_GSymbol]
  rw [ez]
  simp (maxSteps := 2000000) (disch := first | assumption | (refine asm_intro ?_; assumption) | exact Nat.le_add_right _ _ | exact Nat.le_refl _ | omega | (simp (disch := first | exact Nat.le_add_right _ _ | omega) only [Le_upd hb, Le_rfl, free_T hb]; done) | fail) only [go_sem, push_cast, and_pos, Le_upd hb, free_T hb, h1]
  rw [← z0]
  exact szP_lastI

def W58 : Trans := fun args H Bd K => ∃ (xs : List GSymbol) (left : Int), args = [lst (xs), .int .i64 (left)] ∧ ((sm xs ∧ 0 ≤ left ∧ left ≤ 1048576) ∧ K (.int .i64 (szP (tot xs) left)) H Bd)
@[go_sem ↓] theorem W58_eq (xs : List GSymbol) (left : Int) (H : AH) (Bd : Nat) (K : Value → AH → Nat → Prop) : W58 [lst (xs), .int .i64 (left)] H Bd K = ((sm xs ∧ 0 ≤ left ∧ left ≤ 1048576) ∧ K (.int .i64 (szP (tot xs) left)) H Bd) := by
  refine propext ⟨fun h => ?_, fun h => ⟨_, _, rfl, h⟩⟩
  obtain ⟨xs', left', e, h⟩ := h
  skip
  skip
  simp only [List.cons.injEq, Value.agg.injEq, toArr_inj, Value.int.injEq, Value.bool.injEq, Value.string.injEq, Value.slice.injEq, Value.pointer.injEq, Option.some.injEq, Addr.mk.injEq, lst_inj, true_and, and_true] at e
  obtain ⟨rfl, rfl⟩ := e
  exact h
theorem W58_ok : ∀ args H Bd K, W58 args H Bd K → SCalls Try.prog 58 args H Bd K := by
  rintro args H Bd K ⟨xs, left, rfl, hpre, hK⟩
  refine fn_pure pok ((Env.base _).add 64 W64 W64_ok) [] _ hK Try.func58 rfl (rs := [.tmp 4]) rfl Try.ntmps58 (by simp) Try.call58 (by kernel_rfl) (fun ha hb => .int _ _) (fun hb ha => ?_)
  obtain ⟨h1, h2, h3⟩ := hpre
  have hlen := sm_len h1
  have e : tot xs = xs.length + (xs.map tot).sum := tot_list xs
  simp (maxSteps := 2000000) (disch := first | assumption | (refine asm_intro ?_; assumption) | exact Nat.le_add_right _ _ | exact Nat.le_refl _ | omega | (simp (disch := first | exact Nat.le_add_right _ _ | omega) only [Le_upd hb, Le_rfl, free_T hb]; done) | fail) only [go_sem, push_cast, and_pos, Le_upd hb, free_T hb]
  refine Cnp.of (fun h => by rw [e, szP_neg h]) (fun h => ?_)
  refine tr_for (fun i => 0 ≤ left - xs.length - totTo xs i) xs.length (fun i => [(0, lst xs), (1, .int .i64 (left - xs.length - totTo xs i)), (5, .int .i64 i)]) (by simp; omega) (by simp only [go_sem, push_cast, and_pos, totTo_zero, Int.sub_zero]) ?_
  intro i B0 hI hi hB
  refine vq_conv pok (E := ((Env.base _).add 64 W64 W64_ok)) (PL := []) (by kernel_rfl) ?_
  rcases Nat.lt_or_ge i xs.length with hlt | hge
  · have e1 : xs[i]? = some xs[i] := List.getElem?_eq_getElem hlt
    have hx := sm_mem h1 (List.getElem_mem hlt)
    have hst := totTo_succ xs hlt
    skip
    simp (maxSteps := 2000000) (disch := first | assumption | (refine asm_intro ?_; assumption) | exact Nat.le_add_right _ _ | exact Nat.le_refl _ | omega | (simp (disch := first | exact Nat.le_add_right _ _ | omega) only [Le_upd hb, Le_rfl, free_T hb]; done) | fail) only [go_sem, push_cast, and_pos, Le_upd hb, free_T hb, e1, hx]
    exact sz_step hlt hI
  · simp (maxSteps := 2000000) (disch := first | assumption | (refine asm_intro ?_; assumption) | exact Nat.le_add_right _ _ | exact Nat.le_refl _ | omega | (simp (disch := first | exact Nat.le_add_right _ _ | omega) only [Le_upd hb, Le_rfl, free_T hb]; done) | fail) only [go_sem, push_cast, and_pos, Le_upd hb, free_T hb]
    refine vq_conv pok (E := ((Env.base _).add 64 W64 W64_ok)) (PL := []) (by kernel_rfl) ?_
    simp (maxSteps := 2000000) (disch := first | assumption | (refine asm_intro ?_; assumption) | exact Nat.le_add_right _ _ | exact Nat.le_refl _ | omega | (simp (disch := first | exact Nat.le_add_right _ _ | omega) only [Le_upd hb, Le_rfl, free_T hb]; done) | fail) only [go_sem, push_cast, and_pos, Le_upd hb, free_T hb]
    exact sz_end hge hI

def W40 : Trans := fun args H Bd K => ∃ (x : GSignature) (left : Int), args = [.agg (enc (x)).toArray, .int .i64 (left)] ∧ ((sm x ∧ 0 ≤ left ∧ left ≤ 1048576) ∧ K (.int .i64 (szP (tot x) left)) H Bd)
@[go_sem ↓] theorem W40_eq (x_symbols : List GSymbol) (left : Int) (H : AH) (Bd : Nat) (K : Value → AH → Nat → Prop) : W40 [.agg #[lst (x_symbols)], .int .i64 (left)] H Bd K = ((sm (GSignature.mk x_symbols) ∧ 0 ≤ left ∧ left ≤ 1048576) ∧ K (.int .i64 (szP (tot (GSignature.mk x_symbols)) left)) H Bd) := by
  refine propext ⟨fun h => ?_, fun h => ⟨_, _, rfl, h⟩⟩
  obtain ⟨x', left', e, h⟩ := h
  obtain ⟨xsymbols'⟩ := x'
  skip
  simp only [enc_GSignature, List.cons.injEq, Value.agg.injEq, toArr_inj, Value.int.injEq, Value.bool.injEq, Value.string.injEq, Value.slice.injEq, Value.pointer.injEq, Option.some.injEq, Addr.mk.injEq, lst_inj, true_and, and_true] at e
  obtain ⟨rfl, rfl⟩ := e
  exact h
theorem W40_ok : ∀ args H Bd K, W40 args H Bd K → SCalls Try.prog 40 args H Bd K := by
  rintro args H Bd K ⟨x, left, rfl, hpre, hK⟩
  refine fn_pure pok ((Env.base _).add 58 W58 W58_ok) [] _ hK Try.func40 rfl (rs := [.tmp 4]) rfl Try.ntmps40 (by simp) Try.call40 (by kernel_rfl) (fun ha hb => .int _ _) (fun hb ha => ?_)
  obtain ⟨h1, h2, h3⟩ := hpre
  simp only [sm_GSignature, sm_str] at h1
  have q0 := h3
  have q1 := szP_ub (tot x.symbols) (left := left) (by omega)
  have ez : tot x = tot x.symbols := by simp [tot_GSignature]
  rw [ez]
  simp (maxSteps := 2000000) (disch := first | assumption | (refine asm_intro ?_; assumption) | exact Nat.le_add_right _ _ | exact Nat.le_refl _ | omega | (simp (disch := first | exact Nat.le_add_right _ _ | omega) only [Le_upd hb, Le_rfl, free_T hb]; done) | fail) only [go_sem, push_cast, and_pos, Le_upd hb, free_T hb, h1]
  first | exact szP_last | exact szP_lastT

def W41 : Trans := fun args H Bd K => ∃ (x : GTheory) (left : Int), args = [.agg (enc (x)).toArray, .int .i64 (left)] ∧ ((sm x ∧ 0 ≤ left ∧ left ≤ 1048576) ∧ K (.int .i64 (szP (tot x) left)) H Bd)
@[go_sem ↓] theorem W41_eq (x_order : List Int) (x_equations : List GEquation) (x_rules : List GEquation) (left : Int) (H : AH) (Bd : Nat) (K : Value → AH → Nat → Prop) : W41 [.agg #[lst (x_order), lst (x_equations), lst (x_rules)], .int .i64 (left)] H Bd K = ((sm (GTheory.mk x_order x_equations x_rules) ∧ 0 ≤ left ∧ left ≤ 1048576) ∧ K (.int .i64 (szP (tot (GTheory.mk x_order x_equations x_rules)) left)) H Bd) := by
  refine propext ⟨fun h => ?_, fun h => ⟨_, _, rfl, h⟩⟩
  obtain ⟨x', left', e, h⟩ := h
  obtain ⟨xorder', xequations', xrules'⟩ := x'
  skip
  simp only [enc_GTheory, List.cons.injEq, Value.agg.injEq, toArr_inj, Value.int.injEq, Value.bool.injEq, Value.string.injEq, Value.slice.injEq, Value.pointer.injEq, Option.some.injEq, Addr.mk.injEq, lst_inj, true_and, and_true] at e
  obtain ⟨⟨rfl, rfl, rfl⟩, rfl⟩ := e
  exact h
theorem W41_ok : ∀ args H Bd K, W41 args H Bd K → SCalls Try.prog 41 args H Bd K := by
  rintro args H Bd K ⟨x, left, rfl, hpre, hK⟩
  refine fn_pure pok (((Env.base _).add 33 W33 W33_ok).add 34 W34 W34_ok) [] _ hK Try.func41 rfl (rs := [.tmp 4]) rfl Try.ntmps41 (by simp) Try.call41 (by kernel_rfl) (fun ha hb => .int _ _) (fun hb ha => ?_)
  obtain ⟨h1, h2, h3⟩ := hpre
  simp only [sm_GTheory, sm_str] at h1
  have q0 := h3
  have q1 := szP_ub (tot x.order) (left := left) (by omega)
  have q2 := szP_ub (tot x.equations) (left := szP (tot x.order) (left)) (by omega)
  have q3 := szP_ub (tot x.rules) (left := szP (tot x.equations) (szP (tot x.order) (left))) (by omega)
  have ez : tot x = tot x.order + (tot x.equations + (tot x.rules)) := by simp [tot_GTheory]; try omega
  rw [ez]
  simp (maxSteps := 2000000) (disch := first | assumption | (refine asm_intro ?_; assumption) | exact Nat.le_add_right _ _ | exact Nat.le_refl _ | omega | (simp (disch := first | exact Nat.le_add_right _ _ | omega) only [Le_upd hb, Le_rfl, free_T hb]; done) | fail) only [go_sem, push_cast, and_pos, Le_upd hb, free_T hb, h1]
  refine szP_go (fun e => e.symm) (fun e => ?_)
  rw [e]
  refine szP_go (fun e => e.symm) (fun e => ?_)
  rw [e]
  first | exact szP_last | exact szP_lastT

def W42 : Trans := fun args H Bd K => ∃ (xs : List UInt8) (left : Int), args = [lst (xs), .int .i64 (left)] ∧ ((sm xs ∧ -1 ≤ left ∧ left ≤ 1048576) ∧ K (.int .i64 (szP (tot xs) left)) H Bd)
@[go_sem ↓] theorem W42_eq (xs : List UInt8) (left : Int) (H : AH) (Bd : Nat) (K : Value → AH → Nat → Prop) : W42 [lst (xs), .int .i64 (left)] H Bd K = ((sm xs ∧ -1 ≤ left ∧ left ≤ 1048576) ∧ K (.int .i64 (szP (tot xs) left)) H Bd) := by
  refine propext ⟨fun h => ?_, fun h => ⟨_, _, rfl, h⟩⟩
  obtain ⟨xs', left', e, h⟩ := h
  skip
  skip
  simp only [List.cons.injEq, Value.agg.injEq, toArr_inj, Value.int.injEq, Value.bool.injEq, Value.string.injEq, Value.slice.injEq, Value.pointer.injEq, Option.some.injEq, Addr.mk.injEq, lst_inj, true_and, and_true] at e
  obtain ⟨rfl, rfl⟩ := e
  exact h
theorem W42_ok : ∀ args H Bd K, W42 args H Bd K → SCalls Try.prog 42 args H Bd K := by
  rintro args H Bd K ⟨xs, left, rfl, hpre, hK⟩
  refine fn_pure pok (Env.base _) [] _ hK Try.func42 rfl (rs := [.tmp 4]) rfl Try.ntmps42 (by simp) Try.call42 (by kernel_rfl) (fun ha hb => .int _ _) (fun hb ha => ?_)
  obtain ⟨h1, h2, h3⟩ := hpre
  have hlen := sm_len h1
  have e : tot xs = xs.length := by simp
  rw [e]
  simp (maxSteps := 2000000) (disch := first | assumption | (refine asm_intro ?_; assumption) | exact Nat.le_add_right _ _ | exact Nat.le_refl _ | omega | (simp (disch := first | exact Nat.le_add_right _ _ | omega) only [Le_upd hb, Le_rfl, free_T hb]; done) | fail) only [go_sem, push_cast, and_pos, Le_upd hb, free_T hb]
  unfold szP
  exact Cnp.of (fun h => by rw [if_pos h]) (fun h => by rw [if_neg h])

def W27 : Trans := fun args H Bd K => ∃ (x : GRecord) (left : Int), args = [.agg (enc (x)).toArray, .int .i64 (left)] ∧ ((sm x ∧ 0 ≤ left ∧ left ≤ 1048576) ∧ K (.int .i64 (szP (tot x) left)) H Bd)
@[go_sem ↓] theorem W27_eq (x_term : List Int) (x_value : Int) (left : Int) (H : AH) (Bd : Nat) (K : Value → AH → Nat → Prop) : W27 [.agg #[lst (x_term), .int .i64 (x_value)], .int .i64 (left)] H Bd K = ((sm (GRecord.mk x_term x_value) ∧ 0 ≤ left ∧ left ≤ 1048576) ∧ K (.int .i64 (szP (tot (GRecord.mk x_term x_value)) left)) H Bd) := by
  refine propext ⟨fun h => ?_, fun h => ⟨_, _, rfl, h⟩⟩
  obtain ⟨x', left', e, h⟩ := h
  obtain ⟨xterm', xvalue'⟩ := x'
  skip
  simp only [enc_GRecord, List.cons.injEq, Value.agg.injEq, toArr_inj, Value.int.injEq, Value.bool.injEq, Value.string.injEq, Value.slice.injEq, Value.pointer.injEq, Option.some.injEq, Addr.mk.injEq, lst_inj, true_and, and_true] at e
  obtain ⟨⟨rfl, rfl⟩, rfl⟩ := e
  exact h
theorem W27_ok : ∀ args H Bd K, W27 args H Bd K → SCalls Try.prog 27 args H Bd K := by
  rintro args H Bd K ⟨x, left, rfl, hpre, hK⟩
  refine fn_pure pok ((Env.base _).add 33 W33 W33_ok) [] _ hK Try.func27 rfl (rs := [.tmp 4]) rfl Try.ntmps27 (by simp) Try.call27 (by kernel_rfl) (fun ha hb => .int _ _) (fun hb ha => ?_)
  obtain ⟨h1, h2, h3⟩ := hpre
  simp only [sm_GRecord, sm_str] at h1
  have q0 := h3
  have q1 := szP_ub (tot x.term) (left := left) (by omega)
  have ez : tot x = tot x.term := by simp [tot_GRecord]
  rw [ez]
  simp (maxSteps := 2000000) (disch := first | assumption | (refine asm_intro ?_; assumption) | exact Nat.le_add_right _ _ | exact Nat.le_refl _ | omega | (simp (disch := first | exact Nat.le_add_right _ _ | omega) only [Le_upd hb, Le_rfl, free_T hb]; done) | fail) only [go_sem, push_cast, and_pos, Le_upd hb, free_T hb, h1]
  first | exact szP_last | exact szP_lastT

def W10 : Trans := fun args H Bd K => ∃ (xs : List GRecord) (left : Int), args = [lst (xs), .int .i64 (left)] ∧ ((sm xs ∧ 0 ≤ left ∧ left ≤ 1048576) ∧ K (.int .i64 (szP (tot xs) left)) H Bd)
@[go_sem ↓] theorem W10_eq (xs : List GRecord) (left : Int) (H : AH) (Bd : Nat) (K : Value → AH → Nat → Prop) : W10 [lst (xs), .int .i64 (left)] H Bd K = ((sm xs ∧ 0 ≤ left ∧ left ≤ 1048576) ∧ K (.int .i64 (szP (tot xs) left)) H Bd) := by
  refine propext ⟨fun h => ?_, fun h => ⟨_, _, rfl, h⟩⟩
  obtain ⟨xs', left', e, h⟩ := h
  skip
  skip
  simp only [List.cons.injEq, Value.agg.injEq, toArr_inj, Value.int.injEq, Value.bool.injEq, Value.string.injEq, Value.slice.injEq, Value.pointer.injEq, Option.some.injEq, Addr.mk.injEq, lst_inj, true_and, and_true] at e
  obtain ⟨rfl, rfl⟩ := e
  exact h
theorem W10_ok : ∀ args H Bd K, W10 args H Bd K → SCalls Try.prog 10 args H Bd K := by
  rintro args H Bd K ⟨xs, left, rfl, hpre, hK⟩
  refine fn_pure pok ((Env.base _).add 27 W27 W27_ok) [] _ hK Try.func10 rfl (rs := [.tmp 4]) rfl Try.ntmps10 (by simp) Try.call10 (by kernel_rfl) (fun ha hb => .int _ _) (fun hb ha => ?_)
  obtain ⟨h1, h2, h3⟩ := hpre
  have hlen := sm_len h1
  have e : tot xs = xs.length + (xs.map tot).sum := tot_list xs
  simp (maxSteps := 2000000) (disch := first | assumption | (refine asm_intro ?_; assumption) | exact Nat.le_add_right _ _ | exact Nat.le_refl _ | omega | (simp (disch := first | exact Nat.le_add_right _ _ | omega) only [Le_upd hb, Le_rfl, free_T hb]; done) | fail) only [go_sem, push_cast, and_pos, Le_upd hb, free_T hb]
  refine Cnp.of (fun h => by rw [e, szP_neg h]) (fun h => ?_)
  refine tr_for (fun i => 0 ≤ left - xs.length - totTo xs i) xs.length (fun i => [(0, lst xs), (1, .int .i64 (left - xs.length - totTo xs i)), (5, .int .i64 i)]) (by simp; omega) (by simp only [go_sem, push_cast, and_pos, totTo_zero, Int.sub_zero]) ?_
  intro i B0 hI hi hB
  refine vq_conv pok (E := ((Env.base _).add 27 W27 W27_ok)) (PL := []) (by kernel_rfl) ?_
  rcases Nat.lt_or_ge i xs.length with hlt | hge
  · have e1 : xs[i]? = some xs[i] := List.getElem?_eq_getElem hlt
    have hx := sm_mem h1 (List.getElem_mem hlt)
    have hst := totTo_succ xs hlt
    skip
    simp (maxSteps := 2000000) (disch := first | assumption | (refine asm_intro ?_; assumption) | exact Nat.le_add_right _ _ | exact Nat.le_refl _ | omega | (simp (disch := first | exact Nat.le_add_right _ _ | omega) only [Le_upd hb, Le_rfl, free_T hb]; done) | fail) only [go_sem, push_cast, and_pos, Le_upd hb, free_T hb, e1, hx]
    exact sz_step hlt hI
  · simp (maxSteps := 2000000) (disch := first | assumption | (refine asm_intro ?_; assumption) | exact Nat.le_add_right _ _ | exact Nat.le_refl _ | omega | (simp (disch := first | exact Nat.le_add_right _ _ | omega) only [Le_upd hb, Le_rfl, free_T hb]; done) | fail) only [go_sem, push_cast, and_pos, Le_upd hb, free_T hb]
    refine vq_conv pok (E := ((Env.base _).add 27 W27 W27_ok)) (PL := []) (by kernel_rfl) ?_
    simp (maxSteps := 2000000) (disch := first | assumption | (refine asm_intro ?_; assumption) | exact Nat.le_add_right _ _ | exact Nat.le_refl _ | omega | (simp (disch := first | exact Nat.le_add_right _ _ | omega) only [Le_upd hb, Le_rfl, free_T hb]; done) | fail) only [go_sem, push_cast, and_pos, Le_upd hb, free_T hb]
    exact sz_end hge hI

def W20 : Trans := fun args H Bd K => ∃ (x : GBook) (left : Int), args = [.agg (enc (x)).toArray, .int .i64 (left)] ∧ ((sm x ∧ 0 ≤ left ∧ left ≤ 1048576) ∧ K (.int .i64 (szP (tot x) left)) H Bd)
@[go_sem ↓] theorem W20_eq (x_symbols_symbols : List GSymbol) (x_version : Int) (x_theory_order : List Int) (x_theory_equations : List GEquation) (x_theory_rules : List GEquation) (x_moving : Bool) (x_next_order : List Int) (x_next_equations : List GEquation) (x_next_rules : List GEquation) (x_cursor : List UInt8) (x_records : List GRecord) (left : Int) (H : AH) (Bd : Nat) (K : Value → AH → Nat → Prop) : W20 [.agg #[lst (x_symbols_symbols), .int .i64 (x_version), lst (x_theory_order), lst (x_theory_equations), lst (x_theory_rules), .bool (x_moving), lst (x_next_order), lst (x_next_equations), lst (x_next_rules), lst (x_cursor), lst (x_records)], .int .i64 (left)] H Bd K = ((sm (GBook.mk (GSignature.mk x_symbols_symbols) x_version (GTheory.mk x_theory_order x_theory_equations x_theory_rules) x_moving (GTheory.mk x_next_order x_next_equations x_next_rules) x_cursor x_records) ∧ 0 ≤ left ∧ left ≤ 1048576) ∧ K (.int .i64 (szP (tot (GBook.mk (GSignature.mk x_symbols_symbols) x_version (GTheory.mk x_theory_order x_theory_equations x_theory_rules) x_moving (GTheory.mk x_next_order x_next_equations x_next_rules) x_cursor x_records)) left)) H Bd) := by
  refine propext ⟨fun h => ?_, fun h => ⟨_, _, rfl, h⟩⟩
  obtain ⟨x', left', e, h⟩ := h
  obtain ⟨⟨xsymbolssymbols'⟩, xversion', ⟨xtheoryorder', xtheoryequations', xtheoryrules'⟩, xmoving', ⟨xnext_order', xnext_equations', xnext_rules'⟩, xcursor', xrecords'⟩ := x'
  skip
  simp only [enc_GBook, enc_GSignature, enc_GTheory, List.cons.injEq, Value.agg.injEq, toArr_inj, Value.int.injEq, Value.bool.injEq, Value.string.injEq, Value.slice.injEq, Value.pointer.injEq, Option.some.injEq, Addr.mk.injEq, lst_inj, true_and, and_true] at e
  obtain ⟨⟨rfl, rfl, rfl, rfl, rfl, rfl, rfl, rfl, rfl, rfl, rfl⟩, rfl⟩ := e
  exact h
set_option maxHeartbeats 2000000 in
theorem W20_ok : ∀ args H Bd K, W20 args H Bd K → SCalls Try.prog 20 args H Bd K := by
  rintro args H Bd K ⟨x, left, rfl, hpre, hK⟩
  refine fn_pure pok (((((Env.base _).add 40 W40 W40_ok).add 41 W41 W41_ok).add 42 W42 W42_ok).add 10 W10 W10_ok) [] _ hK Try.func20 rfl (rs := [.tmp 4]) rfl Try.ntmps20 (by simp) Try.call20 (by kernel_rfl) (fun ha hb => .int _ _) (fun hb ha => ?_)
  obtain ⟨h1, h2, h3⟩ := hpre
  simp only [sm_GBook, sm_str] at h1
  have q0 := h3
  have q1 := szP_ub (tot x.symbols) (left := left) (by omega)
  have q2 := szP_ub (tot x.theory) (left := szP (tot x.symbols) (left)) (by omega)
  have q3 := szP_ub (tot x.next_) (left := szP (tot x.theory) (szP (tot x.symbols) (left))) (by omega)
  have q4 := szP_ub (tot x.cursor) (left := szP (tot x.next_) (szP (tot x.theory) (szP (tot x.symbols) (left)))) (by omega)
  have q5 := szP_ub (tot x.records) (left := szP (tot x.cursor) (szP (tot x.next_) (szP (tot x.theory) (szP (tot x.symbols) (left))))) (by omega)
  have ez : tot x = tot x.symbols + (tot x.theory + (tot x.next_ + (tot x.cursor + (tot x.records)))) := by simp [tot_GBook]; try omega
  rw [ez]
  simp (maxSteps := 2000000) (disch := first | assumption | (refine asm_intro ?_; assumption) | exact Nat.le_add_right _ _ | exact Nat.le_refl _ | omega | (simp (disch := first | exact Nat.le_add_right _ _ | omega) only [Le_upd hb, Le_rfl, free_T hb]; done) | fail) only [go_sem, push_cast, and_pos, Le_upd hb, free_T hb, h1]
  refine szP_go (fun e => e.symm) (fun e => ?_)
  rw [e]
  refine szP_go (fun e => e.symm) (fun e => ?_)
  rw [e]
  refine szP_go (fun e => e.symm) (fun e => ?_)
  rw [e]
  refine szP_go (fun e => e.symm) (fun e => ?_)
  rw [e]
  first | exact szP_last | exact szP_lastT

def W66 : Trans := fun args H Bd K => ∃ (x : GSymbol), args = [.agg (enc (x)).toArray] ∧ ((sm x ∧ tot x ≤ 1048576) ∧ K (.agg (enc (x)).toArray) H Bd)
@[go_sem ↓] theorem W66_eq (x_name : ByteArray) (x_arity : Int) (H : AH) (Bd : Nat) (K : Value → AH → Nat → Prop) : W66 [.agg #[.string (x_name), .int .i64 (x_arity)]] H Bd K = ((sm (GSymbol.mk x_name x_arity) ∧ tot (GSymbol.mk x_name x_arity) ≤ 1048576) ∧ K (.agg (enc ((GSymbol.mk x_name x_arity))).toArray) H Bd) := by
  refine propext ⟨fun h => ?_, fun h => ⟨_, rfl, h⟩⟩
  obtain ⟨x', e, h⟩ := h
  obtain ⟨xname', xarity'⟩ := x'
  simp only [enc_GSymbol, List.cons.injEq, Value.agg.injEq, toArr_inj, Value.int.injEq, Value.bool.injEq, Value.string.injEq, Value.slice.injEq, Value.pointer.injEq, Option.some.injEq, Addr.mk.injEq, lst_inj, true_and, and_true] at e
  obtain ⟨rfl, rfl⟩ := e
  exact h
theorem W66_ok : ∀ args H Bd K, W66 args H Bd K → SCalls Try.prog 66 args H Bd K := by
  rintro args H Bd K ⟨x, rfl, hpre, hK⟩
  refine fn_pure pok (Env.base _) [] _ hK Try.func66 rfl (rs := [.cell 2 97]) rfl Try.ntmps66 (by simp) Try.call66 (by kernel_rfl) (fun ha hb => agg_nb _ _) (fun hb ha => ?_)
  obtain ⟨h1, h2⟩ := hpre
  simp only [sm_GSymbol] at h1
  simp only [tot_GSymbol] at h2
  simp (maxSteps := 2000000) (disch := first | assumption | (refine asm_intro ?_; assumption) | exact Nat.le_add_right _ _ | exact Nat.le_refl _ | omega | (simp (disch := first | exact Nat.le_add_right _ _ | omega) only [Le_upd hb, Le_rfl, free_T hb]; done) | fail) only [go_sem, push_cast, and_pos, Le_upd hb, free_T hb, h1]

def W60 : Trans := fun args H Bd K => ∃ (xs : List GSymbol), args = [lst (xs)] ∧ ((sm xs ∧ tot xs ≤ 1048576) ∧ K (lst (xs)) H Bd)
@[go_sem ↓] theorem W60_eq (xs : List GSymbol) (H : AH) (Bd : Nat) (K : Value → AH → Nat → Prop) : W60 [lst (xs)] H Bd K = ((sm xs ∧ tot xs ≤ 1048576) ∧ K (lst (xs)) H Bd) := by
  refine propext ⟨fun h => ?_, fun h => ⟨_, rfl, h⟩⟩
  obtain ⟨xs', e, h⟩ := h
  skip
  simp only [List.cons.injEq, Value.agg.injEq, toArr_inj, Value.int.injEq, Value.bool.injEq, Value.string.injEq, Value.slice.injEq, Value.pointer.injEq, Option.some.injEq, Addr.mk.injEq, lst_inj, true_and, and_true] at e
  obtain rfl := e
  exact h
theorem W60_ok : ∀ args H Bd K, W60 args H Bd K → SCalls Try.prog 60 args H Bd K := by
  rintro args H Bd K ⟨xs, rfl, hpre, hK⟩
  refine fn_pure pok ((Env.base _).add 66 W66 W66_ok) [] _ hK Try.func60 rfl (rs := [.tmp 2]) rfl Try.ntmps60 (by simp) Try.call60 (by kernel_rfl) (fun ha hb => lst_nb _ _) (fun hb ha => ?_)
  obtain ⟨h1, h2⟩ := hpre
  have e : tot xs = xs.length + (xs.map tot).sum := tot_list xs
  simp (maxSteps := 2000000) (disch := first | assumption | (refine asm_intro ?_; assumption) | exact Nat.le_add_right _ _ | exact Nat.le_refl _ | omega | (simp (disch := first | exact Nat.le_add_right _ _ | omega) only [Le_upd hb, Le_rfl, free_T hb]; done) | fail) only [go_sem, push_cast, and_pos, Le_upd hb, free_T hb]
  refine tr_fill (α := GSymbol) hb xs (fun i => [(0, lst xs), (3, .slice (some ⟨Bd, 0, some 2⟩) xs.length (xs.length + 1)), (4, .int .i64 i)]) _ (zmake_len _ _) ⟨Nat.le_refl _, by omega⟩ (by simp only [go_sem, push_cast, and_pos]) (Le.refl _) ?_
  intro i L B hi hL hF hB hb'
  refine vq_conv pok (E := ((Env.base _).add 66 W66 W66_ok)) (PL := []) (by kernel_rfl) ?_
  have hL' : L.length = xs.length * 2 := hL
  rcases Nat.lt_or_ge i xs.length with hlt | hge
  · have e1 : xs[i]? = some xs[i] := List.getElem?_eq_getElem hlt
    have hx := sm_mem h1 (List.getElem_mem hlt)
    have hx2 : tot xs[i] ≤ (xs.map tot).sum := tot_mem hlt
    simp (maxSteps := 2000000) (disch := first | assumption | (refine asm_intro ?_; assumption) | exact Nat.le_add_right _ _ | exact Nat.le_refl _ | omega | (simp (disch := first | exact Nat.le_add_right _ _ | omega) only [Le_upd hb, Le_rfl, free_T hb]; done) | fail) only [go_sem, push_cast, and_pos, Le_upd hb, free_T hb, e1, hx]
    exact ⟨_, rfl, Le.refl _⟩
  · simp (maxSteps := 2000000) (disch := first | assumption | (refine asm_intro ?_; assumption) | exact Nat.le_add_right _ _ | exact Nat.le_refl _ | omega | (simp (disch := first | exact Nat.le_add_right _ _ | omega) only [Le_upd hb, Le_rfl, free_T hb]; done) | fail) only [go_sem, push_cast, and_pos, Le_upd hb, free_T hb]
    have hf : L = flat xs := by
      rw [List.take_of_length_le (by rw [hL]; exact Nat.mul_le_mul_right _ hge), List.take_of_length_le hge] at hF
      exact hF
    subst hf
    refine Tr.fin hb 3 (Nat.le_refl Bd) (by simp only [go_sem, push_cast, and_pos]; rfl) rfl ?_
    refine vq_conv pok (E := ((Env.base _).add 66 W66 W66_ok)) (PL := []) (by kernel_rfl) ?_
    simp (maxSteps := 2000000) (disch := first | assumption | (refine asm_intro ?_; assumption) | exact Nat.le_add_right _ _ | exact Nat.le_refl _ | omega | (simp (disch := first | exact Nat.le_add_right _ _ | omega) only [Le_upd hb, Le_rfl, free_T hb]; done) | fail) only [go_sem, push_cast, and_pos, Le_upd hb, free_T hb]

def W45 : Trans := fun args H Bd K => ∃ (x : GSignature), args = [.agg (enc (x)).toArray] ∧ ((sm x ∧ tot x ≤ 1048576) ∧ K (.agg (enc (x)).toArray) H Bd)
@[go_sem ↓] theorem W45_eq (x_symbols : List GSymbol) (H : AH) (Bd : Nat) (K : Value → AH → Nat → Prop) : W45 [.agg #[lst (x_symbols)]] H Bd K = ((sm (GSignature.mk x_symbols) ∧ tot (GSignature.mk x_symbols) ≤ 1048576) ∧ K (.agg (enc ((GSignature.mk x_symbols))).toArray) H Bd) := by
  refine propext ⟨fun h => ?_, fun h => ⟨_, rfl, h⟩⟩
  obtain ⟨x', e, h⟩ := h
  obtain ⟨xsymbols'⟩ := x'
  simp only [enc_GSignature, List.cons.injEq, Value.agg.injEq, toArr_inj, Value.int.injEq, Value.bool.injEq, Value.string.injEq, Value.slice.injEq, Value.pointer.injEq, Option.some.injEq, Addr.mk.injEq, lst_inj, true_and, and_true] at e
  obtain rfl := e
  exact h
theorem W45_ok : ∀ args H Bd K, W45 args H Bd K → SCalls Try.prog 45 args H Bd K := by
  rintro args H Bd K ⟨x, rfl, hpre, hK⟩
  refine fn_pure pok ((Env.base _).add 60 W60 W60_ok) [] _ hK Try.func45 rfl (rs := [.cell 2 57]) rfl Try.ntmps45 (by simp) Try.call45 (by kernel_rfl) (fun ha hb => agg_nb _ _) (fun hb ha => ?_)
  obtain ⟨h1, h2⟩ := hpre
  simp only [sm_GSignature] at h1
  simp only [tot_GSignature] at h2
  simp (maxSteps := 2000000) (disch := first | assumption | (refine asm_intro ?_; assumption) | exact Nat.le_add_right _ _ | exact Nat.le_refl _ | omega | (simp (disch := first | exact Nat.le_add_right _ _ | omega) only [Le_upd hb, Le_rfl, free_T hb]; done) | fail) only [go_sem, push_cast, and_pos, Le_upd hb, free_T hb, h1]

def W46 : Trans := fun args H Bd K => ∃ (x : GTheory), args = [.agg (enc (x)).toArray] ∧ ((sm x ∧ tot x ≤ 1048576) ∧ K (.agg (enc (x)).toArray) H Bd)
@[go_sem ↓] theorem W46_eq (x_order : List Int) (x_equations : List GEquation) (x_rules : List GEquation) (H : AH) (Bd : Nat) (K : Value → AH → Nat → Prop) : W46 [.agg #[lst (x_order), lst (x_equations), lst (x_rules)]] H Bd K = ((sm (GTheory.mk x_order x_equations x_rules) ∧ tot (GTheory.mk x_order x_equations x_rules) ≤ 1048576) ∧ K (.agg (enc ((GTheory.mk x_order x_equations x_rules))).toArray) H Bd) := by
  refine propext ⟨fun h => ?_, fun h => ⟨_, rfl, h⟩⟩
  obtain ⟨x', e, h⟩ := h
  obtain ⟨xorder', xequations', xrules'⟩ := x'
  simp only [enc_GTheory, List.cons.injEq, Value.agg.injEq, toArr_inj, Value.int.injEq, Value.bool.injEq, Value.string.injEq, Value.slice.injEq, Value.pointer.injEq, Option.some.injEq, Addr.mk.injEq, lst_inj, true_and, and_true] at e
  obtain ⟨rfl, rfl, rfl⟩ := e
  exact h
theorem W46_ok : ∀ args H Bd K, W46 args H Bd K → SCalls Try.prog 46 args H Bd K := by
  rintro args H Bd K ⟨x, rfl, hpre, hK⟩
  refine fn_pure pok (((Env.base _).add 36 W36 W36_ok).add 37 W37 W37_ok) [] _ hK Try.func46 rfl (rs := [.cell 2 59]) rfl Try.ntmps46 (by simp) Try.call46 (by kernel_rfl) (fun ha hb => agg_nb _ _) (fun hb ha => ?_)
  obtain ⟨h1, h2⟩ := hpre
  simp only [sm_GTheory] at h1
  simp only [tot_GTheory] at h2
  simp (maxSteps := 2000000) (disch := first | assumption | (refine asm_intro ?_; assumption) | exact Nat.le_add_right _ _ | exact Nat.le_refl _ | omega | (simp (disch := first | exact Nat.le_add_right _ _ | omega) only [Le_upd hb, Le_rfl, free_T hb]; done) | fail) only [go_sem, push_cast, and_pos, Le_upd hb, free_T hb, h1]

def W47 : Trans := fun args H Bd K => ∃ (xs : List UInt8), args = [lst (xs)] ∧ ((sm xs ∧ tot xs ≤ 1048576) ∧ K (lst (xs)) H Bd)
@[go_sem ↓] theorem W47_eq (xs : List UInt8) (H : AH) (Bd : Nat) (K : Value → AH → Nat → Prop) : W47 [lst (xs)] H Bd K = ((sm xs ∧ tot xs ≤ 1048576) ∧ K (lst (xs)) H Bd) := by
  refine propext ⟨fun h => ?_, fun h => ⟨_, rfl, h⟩⟩
  obtain ⟨xs', e, h⟩ := h
  skip
  simp only [List.cons.injEq, Value.agg.injEq, toArr_inj, Value.int.injEq, Value.bool.injEq, Value.string.injEq, Value.slice.injEq, Value.pointer.injEq, Option.some.injEq, Addr.mk.injEq, lst_inj, true_and, and_true] at e
  obtain rfl := e
  exact h
theorem W47_ok : ∀ args H Bd K, W47 args H Bd K → SCalls Try.prog 47 args H Bd K := by
  rintro args H Bd K ⟨xs, rfl, hpre, hK⟩
  refine fn_pure pok (Env.base _) [] _ hK Try.func47 rfl (rs := [.tmp 2]) rfl Try.ntmps47 (by simp) Try.call47 (by kernel_rfl) (fun ha hb => lst_nb _ _) (fun hb ha => ?_)
  obtain ⟨h1, h2⟩ := hpre
  have e : tot xs = xs.length + (xs.map tot).sum := tot_list xs
  simp (maxSteps := 2000000) (disch := first | assumption | (refine asm_intro ?_; assumption) | exact Nat.le_add_right _ _ | exact Nat.le_refl _ | omega | (simp (disch := first | exact Nat.le_add_right _ _ | omega) only [Le_upd hb, Le_rfl, free_T hb]; done) | fail) only [go_sem, push_cast, and_pos, Le_upd hb, free_T hb]
  refine tr_fill (α := UInt8) hb xs (fun i => [(0, lst xs), (3, .slice (some ⟨Bd, 0, some 1⟩) xs.length (xs.length + 1)), (4, .int .i64 i)]) _ (zmake_len _ _) ⟨Nat.le_refl _, by omega⟩ (by simp only [go_sem, push_cast, and_pos]) (Le.refl _) ?_
  intro i L B hi hL hF hB hb'
  refine vq_conv pok (E := (Env.base _)) (PL := []) (by kernel_rfl) ?_
  have hL' : L.length = xs.length * 1 := hL
  rcases Nat.lt_or_ge i xs.length with hlt | hge
  · have e1 : xs[i]? = some xs[i] := List.getElem?_eq_getElem hlt
    have hx := sm_mem h1 (List.getElem_mem hlt)
    have hx2 : tot xs[i] ≤ (xs.map tot).sum := tot_mem hlt
    simp (maxSteps := 2000000) (disch := first | assumption | (refine asm_intro ?_; assumption) | exact Nat.le_add_right _ _ | exact Nat.le_refl _ | omega | (simp (disch := first | exact Nat.le_add_right _ _ | omega) only [Le_upd hb, Le_rfl, free_T hb]; done) | fail) only [go_sem, push_cast, and_pos, Le_upd hb, free_T hb, e1, hx]
    exact ⟨_, rfl, Le.refl _⟩
  · simp (maxSteps := 2000000) (disch := first | assumption | (refine asm_intro ?_; assumption) | exact Nat.le_add_right _ _ | exact Nat.le_refl _ | omega | (simp (disch := first | exact Nat.le_add_right _ _ | omega) only [Le_upd hb, Le_rfl, free_T hb]; done) | fail) only [go_sem, push_cast, and_pos, Le_upd hb, free_T hb]
    have hf : L = flat xs := by
      rw [List.take_of_length_le (by rw [hL]; exact Nat.mul_le_mul_right _ hge), List.take_of_length_le hge] at hF
      exact hF
    subst hf
    refine Tr.fin hb 3 (Nat.le_refl Bd) (by simp only [go_sem, push_cast, and_pos]; rfl) rfl ?_
    refine vq_conv pok (E := (Env.base _)) (PL := []) (by kernel_rfl) ?_
    simp (maxSteps := 2000000) (disch := first | assumption | (refine asm_intro ?_; assumption) | exact Nat.le_add_right _ _ | exact Nat.le_refl _ | omega | (simp (disch := first | exact Nat.le_add_right _ _ | omega) only [Le_upd hb, Le_rfl, free_T hb]; done) | fail) only [go_sem, push_cast, and_pos, Le_upd hb, free_T hb]

def W29 : Trans := fun args H Bd K => ∃ (x : GRecord), args = [.agg (enc (x)).toArray] ∧ ((sm x ∧ tot x ≤ 1048576) ∧ K (.agg (enc (x)).toArray) H Bd)
@[go_sem ↓] theorem W29_eq (x_term : List Int) (x_value : Int) (H : AH) (Bd : Nat) (K : Value → AH → Nat → Prop) : W29 [.agg #[lst (x_term), .int .i64 (x_value)]] H Bd K = ((sm (GRecord.mk x_term x_value) ∧ tot (GRecord.mk x_term x_value) ≤ 1048576) ∧ K (.agg (enc ((GRecord.mk x_term x_value))).toArray) H Bd) := by
  refine propext ⟨fun h => ?_, fun h => ⟨_, rfl, h⟩⟩
  obtain ⟨x', e, h⟩ := h
  obtain ⟨xterm', xvalue'⟩ := x'
  simp only [enc_GRecord, List.cons.injEq, Value.agg.injEq, toArr_inj, Value.int.injEq, Value.bool.injEq, Value.string.injEq, Value.slice.injEq, Value.pointer.injEq, Option.some.injEq, Addr.mk.injEq, lst_inj, true_and, and_true] at e
  obtain ⟨rfl, rfl⟩ := e
  exact h
theorem W29_ok : ∀ args H Bd K, W29 args H Bd K → SCalls Try.prog 29 args H Bd K := by
  rintro args H Bd K ⟨x, rfl, hpre, hK⟩
  refine fn_pure pok ((Env.base _).add 36 W36 W36_ok) [] _ hK Try.func29 rfl (rs := [.cell 2 69]) rfl Try.ntmps29 (by simp) Try.call29 (by kernel_rfl) (fun ha hb => agg_nb _ _) (fun hb ha => ?_)
  obtain ⟨h1, h2⟩ := hpre
  simp only [sm_GRecord] at h1
  simp only [tot_GRecord] at h2
  simp (maxSteps := 2000000) (disch := first | assumption | (refine asm_intro ?_; assumption) | exact Nat.le_add_right _ _ | exact Nat.le_refl _ | omega | (simp (disch := first | exact Nat.le_add_right _ _ | omega) only [Le_upd hb, Le_rfl, free_T hb]; done) | fail) only [go_sem, push_cast, and_pos, Le_upd hb, free_T hb, h1]

end Go.Proofs.Ytkojciapfghibaa
