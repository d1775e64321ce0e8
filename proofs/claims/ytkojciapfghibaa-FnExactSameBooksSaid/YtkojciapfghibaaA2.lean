/- YtkojciapfghibaaA2 -/
import Derived.Test.YtkojciapfghibaaA1
set_option linter.unusedSimpArgs false
set_option linter.unusedVariables false
set_option maxRecDepth 20000
namespace Go.Proofs.Ytkojciapfghibaa
open Go Go.SC
def W12 : Trans := fun args H Bd K => ∃ (xs : List GRecord), args = [lst (xs)] ∧ ((sm xs ∧ tot xs ≤ 1048576) ∧ K (lst (xs)) H Bd)
@[go_sem ↓] theorem W12_eq (xs : List GRecord) (H : AH) (Bd : Nat) (K : Value → AH → Nat → Prop) : W12 [lst (xs)] H Bd K = ((sm xs ∧ tot xs ≤ 1048576) ∧ K (lst (xs)) H Bd) := by
  refine propext ⟨fun h => ?_, fun h => ⟨_, rfl, h⟩⟩
  obtain ⟨xs', e, h⟩ := h
  skip
  simp only [List.cons.injEq, Value.agg.injEq, toArr_inj, Value.int.injEq, Value.bool.injEq, Value.string.injEq, Value.slice.injEq, Value.pointer.injEq, Option.some.injEq, Addr.mk.injEq, lst_inj, true_and, and_true] at e
  obtain rfl := e
  exact h
theorem W12_ok : ∀ args H Bd K, W12 args H Bd K → SCalls Try.prog 12 args H Bd K := by
  rintro args H Bd K ⟨xs, rfl, hpre, hK⟩
  refine fn_pure pok ((Env.base _).add 29 W29 W29_ok) [] _ hK Try.func12 rfl (rs := [.tmp 2]) rfl Try.ntmps12 (by simp) Try.call12 (by kernel_rfl) (fun ha hb => lst_nb _ _) (fun hb ha => ?_)
  obtain ⟨h1, h2⟩ := hpre
  have e : tot xs = xs.length + (xs.map tot).sum := tot_list xs
  simp (maxSteps := 2000000) (disch := first | assumption | (refine asm_intro ?_; assumption) | exact Nat.le_add_right _ _ | exact Nat.le_refl _ | omega | (simp (disch := first | exact Nat.le_add_right _ _ | omega) only [Le_upd hb, Le_rfl, free_T hb]; done) | fail) only [go_sem, push_cast, and_pos, Le_upd hb, free_T hb]
  refine tr_fill (α := GRecord) hb xs (fun i => [(0, lst xs), (3, .slice (some ⟨Bd, 0, some 2⟩) xs.length (xs.length + 1)), (4, .int .i64 i)]) _ (zmake_len _ _) ⟨Nat.le_refl _, by omega⟩ (by simp only [go_sem, push_cast, and_pos]) (Le.refl _) ?_
  intro i L B hi hL hF hB hb'
  refine vq_conv pok (E := ((Env.base _).add 29 W29 W29_ok)) (PL := []) (by kernel_rfl) ?_
  have hL' : L.length = xs.length * 2 := hL
  rcases Nat.lt_or_ge i xs.length with hlt | hge
  · have e1 : xs[i]? = some xs[i] := List.getElem?_eq_getElem hlt
    have hx := sm_mem h1 (List.getElem_mem hlt)
    have hx2 : tot xs[i] ≤ (xs.map tot).sum := tot_mem hlt
    simp (maxSteps := 2000000) (disch := first | assumption | (refine asm_intro ?_; assumption) | exact Nat.le_add_right _ _ | exact Nat.le_refl _ | omega | (simp (disch := first | exact Nat.le_add_right _ _ | omega) only [Le_upd hb, Le_rfl, free_T hb]; done) | fail) only [go_sem, push_cast, and_pos, Le_upd hb, free_T hb, e1, hx]
    exact ⟨_, rfl, Le.refl _⟩
  · simp (maxSteps := 2000000) (disch := first | assumption | (refine asm_intro ?_; assumption) | exact Nat.le_add_right _ _ | exact Nat.le_refl _ | omega | (simp (disch := first | exact Nat.le_add_right _ _ | omega) only [Le_upd hb, Le_rfl, free_T hb]; done) | fail) only [go_sem, push_cast, and_pos, Le_upd hb, free_T hb]
    have hf : L = flat xs := by
      rw [List.take_of_length_le (by rw [hL]; exact Nat.mul_le_mul_right _ hge), List.take_of_length_le hge] at hF
      exact hF
    subst hf
    refine Tr.fin hb 3 (Nat.le_refl Bd) (by simp only [go_sem, push_cast, and_pos]; rfl) rfl ?_
    refine vq_conv pok (E := ((Env.base _).add 29 W29 W29_ok)) (PL := []) (by kernel_rfl) ?_
    simp (maxSteps := 2000000) (disch := first | assumption | (refine asm_intro ?_; assumption) | exact Nat.le_add_right _ _ | exact Nat.le_refl _ | omega | (simp (disch := first | exact Nat.le_add_right _ _ | omega) only [Le_upd hb, Le_rfl, free_T hb]; done) | fail) only [go_sem, push_cast, and_pos, Le_upd hb, free_T hb]
def W22 : Trans := fun args H Bd K => ∃ (x : GBook), args = [.agg (enc (x)).toArray] ∧ ((sm x ∧ tot x ≤ 1048576) ∧ K (.agg (enc (x)).toArray) H Bd)
@[go_sem ↓] theorem W22_eq (x_symbols_symbols : List GSymbol) (x_version : Int) (x_theory_order : List Int) (x_theory_equations : List GEquation) (x_theory_rules : List GEquation) (x_moving : Bool) (x_next_order : List Int) (x_next_equations : List GEquation) (x_next_rules : List GEquation) (x_cursor : List UInt8) (x_records : List GRecord) (H : AH) (Bd : Nat) (K : Value → AH → Nat → Prop) : W22 [.agg #[lst (x_symbols_symbols), .int .i64 (x_version), lst (x_theory_order), lst (x_theory_equations), lst (x_theory_rules), .bool (x_moving), lst (x_next_order), lst (x_next_equations), lst (x_next_rules), lst (x_cursor), lst (x_records)]] H Bd K = ((sm (GBook.mk (GSignature.mk x_symbols_symbols) x_version (GTheory.mk x_theory_order x_theory_equations x_theory_rules) x_moving (GTheory.mk x_next_order x_next_equations x_next_rules) x_cursor x_records) ∧ tot (GBook.mk (GSignature.mk x_symbols_symbols) x_version (GTheory.mk x_theory_order x_theory_equations x_theory_rules) x_moving (GTheory.mk x_next_order x_next_equations x_next_rules) x_cursor x_records) ≤ 1048576) ∧ K (.agg (enc ((GBook.mk (GSignature.mk x_symbols_symbols) x_version (GTheory.mk x_theory_order x_theory_equations x_theory_rules) x_moving (GTheory.mk x_next_order x_next_equations x_next_rules) x_cursor x_records))).toArray) H Bd) := by
  refine propext ⟨fun h => ?_, fun h => ⟨_, rfl, h⟩⟩
  obtain ⟨x', e, h⟩ := h
  obtain ⟨⟨xsymbolssymbols'⟩, xversion', ⟨xtheoryorder', xtheoryequations', xtheoryrules'⟩, xmoving', ⟨xnext_order', xnext_equations', xnext_rules'⟩, xcursor', xrecords'⟩ := x'
  simp only [enc_GBook, enc_GSignature, enc_GTheory, List.cons.injEq, Value.agg.injEq, toArr_inj, Value.int.injEq, Value.bool.injEq, Value.string.injEq, Value.slice.injEq, Value.pointer.injEq, Option.some.injEq, Addr.mk.injEq, lst_inj, true_and, and_true] at e
  obtain ⟨rfl, rfl, rfl, rfl, rfl, rfl, rfl, rfl, rfl, rfl, rfl⟩ := e
  exact h
set_option maxHeartbeats 2000000 in
theorem W22_ok : ∀ args H Bd K, W22 args H Bd K → SCalls Try.prog 22 args H Bd K := by
  rintro args H Bd K ⟨x, rfl, hpre, hK⟩
  refine fn_pure pok (((((Env.base _).add 45 W45 W45_ok).add 46 W46 W46_ok).add 47 W47 W47_ok).add 12 W12 W12_ok) [] _ hK Try.func22 rfl (rs := [.cell 2 61]) rfl Try.ntmps22 (by simp) Try.call22 (by kernel_rfl) (fun ha hb => agg_nb _ _) (fun hb ha => ?_)
  obtain ⟨h1, h2⟩ := hpre
  simp only [sm_GBook] at h1
  simp only [tot_GBook] at h2
  simp (maxSteps := 2000000) (disch := first | assumption | (refine asm_intro ?_; assumption) | exact Nat.le_add_right _ _ | exact Nat.le_refl _ | omega | (simp (disch := first | exact Nat.le_add_right _ _ | omega) only [Le_upd hb, Le_rfl, free_T hb]; done) | fail) only [go_sem, push_cast, and_pos, Le_upd hb, free_T hb, h1]
def W43 : Trans := fun args H Bd K => ∃ (x : GSignature) (y : GSignature), args = [.agg (enc (x)).toArray, .agg (enc (y)).toArray] ∧ ((sm x) ∧ K (.bool (decide (x = y))) H Bd)
@[go_sem ↓] theorem W43_eq (x_symbols : List GSymbol) (y_symbols : List GSymbol) (H : AH) (Bd : Nat) (K : Value → AH → Nat → Prop) : W43 [.agg #[lst (x_symbols)], .agg #[lst (y_symbols)]] H Bd K = ((sm (GSignature.mk x_symbols)) ∧ K (.bool (decide ((GSignature.mk x_symbols) = (GSignature.mk y_symbols)))) H Bd) := by
  refine propext ⟨fun h => ?_, fun h => ⟨_, _, rfl, h⟩⟩
  obtain ⟨x', y', e, h⟩ := h
  obtain ⟨xsymbols'⟩ := x'
  obtain ⟨ysymbols'⟩ := y'
  simp only [enc_GSignature, List.cons.injEq, Value.agg.injEq, toArr_inj, Value.int.injEq, Value.bool.injEq, Value.string.injEq, Value.slice.injEq, Value.pointer.injEq, Option.some.injEq, Addr.mk.injEq, lst_inj, true_and, and_true] at e
  obtain ⟨rfl, rfl⟩ := e
  exact h
set_option maxHeartbeats 2000000 in
theorem W43_ok : ∀ args H Bd K, W43 args H Bd K → SCalls Try.prog 43 args H Bd K := by
  rintro args H Bd K ⟨x, y, rfl, hpre, hK⟩
  refine fn_pure pok (Env.base _) [(6, [0,1,2,3,4,5,6,7,8,9,10], [⟨0, [], []⟩, ⟨1, [], []⟩, ⟨2, [], []⟩, ⟨3, [], []⟩, ⟨4, [], []⟩, ⟨5, [], []⟩, ⟨6, [], []⟩, ⟨7, [], []⟩, ⟨8, [], []⟩, ⟨9, [], []⟩, ⟨10, [], []⟩], .nil)] _ hK Try.func43 rfl (rs := [.tmp 4]) rfl Try.ntmps43 (by simp) Try.call43 (by kernel_rfl) (fun ha hb => .bool _) (fun hb ha => ?_)
  obtain ⟨xs⟩ := x
  obtain ⟨ys⟩ := y
  simp only [sm_GSignature] at hpre
  have hD : (decide ((GSignature.mk xs) = (GSignature.mk ys))) = decide (xs = ys) := by simp
  rw [hD]
  have hlen := sm_len hpre
  simp (maxSteps := 2000000) (disch := first | assumption | (refine asm_intro ?_; assumption) | exact Nat.le_add_right _ _ | exact Nat.le_refl _ | omega | (simp (disch := first | exact Nat.le_add_right _ _ | omega) only [Le_upd hb, Le_rfl, free_T hb]; done) | fail) only [go_sem, push_cast, and_pos, Le_upd hb, free_T hb]
  refine Cnp.of (fun hl => ?_) (fun hl => cmp_len (by omega))
  have hl' : xs.length = ys.length := by omega
  refine tr_for (fun i => ∀ j, j < i → xs[j]? = ys[j]?) xs.length (fun i => [(2, .pointer (some ⟨Bd, 0, none⟩)), (3, .pointer (some ⟨Bd + 1, 0, none⟩)), (5, .int .i64 i)]) (fun j h => by omega) (by simp only [go_sem, push_cast, and_pos]) ?_
  intro i B0 hI hi hB
  refine vq_conv pok (E := (Env.base _)) (PL := [(6, [0,1,2,3,4,5,6,7,8,9,10], [⟨0, [], []⟩, ⟨1, [], []⟩, ⟨2, [], []⟩, ⟨3, [], []⟩, ⟨4, [], []⟩, ⟨5, [], []⟩, ⟨6, [], []⟩, ⟨7, [], []⟩, ⟨8, [], []⟩, ⟨9, [], []⟩, ⟨10, [], []⟩], .nil)]) (by kernel_rfl) ?_
  rcases Nat.lt_or_ge i xs.length with hlt | hge
  · have e1 : xs[i]? = some xs[i] := List.getElem?_eq_getElem hlt
    have e2 : ys[i]? = some (ys[i]'(by omega)) := List.getElem?_eq_getElem _
    have hx := sm_mem hpre (List.getElem_mem hlt)
    simp (maxSteps := 2000000) (disch := first | assumption | (refine asm_intro ?_; assumption) | exact Nat.le_add_right _ _ | exact Nat.le_refl _ | omega | (simp (disch := first | exact Nat.le_add_right _ _ | omega) only [Le_upd hb, Le_rfl, free_T hb]; done) | fail) only [go_sem, push_cast, and_pos, Le_upd hb, free_T hb, e1, e2, hx]
    have hc := cmp_step (A := ∀ j, j < i + 1 → xs[j]? = ys[j]?) hl' hI hlt (by omega) rfl fun h => h
    generalize (∀ j, j < i + 1 → xs[j]? = ys[j]?) = A at hc ⊢
    generalize xs[i] = x at hc ⊢
    generalize ys[i] = y at hc ⊢
    cases x; cases y
    simp only [Cnp, Imp, GSymbol.mk.injEq] at hc ⊢
    grind
  · simp (maxSteps := 2000000) (disch := first | assumption | (refine asm_intro ?_; assumption) | exact Nat.le_add_right _ _ | exact Nat.le_refl _ | omega | (simp (disch := first | exact Nat.le_add_right _ _ | omega) only [Le_upd hb, Le_rfl, free_T hb]; done) | fail) only [go_sem, push_cast, and_pos, Le_upd hb, free_T hb]
    refine vq_conv pok (E := (Env.base _)) (PL := [(6, [0,1,2,3,4,5,6,7,8,9,10], [⟨0, [], []⟩, ⟨1, [], []⟩, ⟨2, [], []⟩, ⟨3, [], []⟩, ⟨4, [], []⟩, ⟨5, [], []⟩, ⟨6, [], []⟩, ⟨7, [], []⟩, ⟨8, [], []⟩, ⟨9, [], []⟩, ⟨10, [], []⟩], .nil)]) (by kernel_rfl) ?_
    simp (maxSteps := 2000000) (disch := first | assumption | (refine asm_intro ?_; assumption) | exact Nat.le_add_right _ _ | exact Nat.le_refl _ | omega | (simp (disch := first | exact Nat.le_add_right _ _ | omega) only [Le_upd hb, Le_rfl, free_T hb]; done) | fail) only [go_sem, push_cast, and_pos, Le_upd hb, free_T hb]
    exact cmp_end hl' hI hge
def W28 : Trans := fun args H Bd K => ∃ (xs : List Int) (ys : List Int), args = [lst (xs), lst (ys)] ∧ ((sm xs) ∧ K (.bool (decide (xs = ys))) H Bd)
@[go_sem ↓] theorem W28_eq (xs : List Int) (ys : List Int) (H : AH) (Bd : Nat) (K : Value → AH → Nat → Prop) : W28 [lst (xs), lst (ys)] H Bd K = ((sm xs) ∧ K (.bool (decide (xs = ys))) H Bd) := by
  refine propext ⟨fun h => ?_, fun h => ⟨_, _, rfl, h⟩⟩
  obtain ⟨xs', ys', e, h⟩ := h
  skip
  skip
  simp only [List.cons.injEq, Value.agg.injEq, toArr_inj, Value.int.injEq, Value.bool.injEq, Value.string.injEq, Value.slice.injEq, Value.pointer.injEq, Option.some.injEq, Addr.mk.injEq, lst_inj, true_and, and_true] at e
  obtain ⟨rfl, rfl⟩ := e
  exact h
theorem W28_ok : ∀ args H Bd K, W28 args H Bd K → SCalls Try.prog 28 args H Bd K := by
  rintro args H Bd K ⟨xs, ys, rfl, hpre, hK⟩
  refine fn_pure pok (Env.base _) [(6, [0,1,2,3,4,5,6,7,8], [⟨0, [], []⟩, ⟨1, [], []⟩, ⟨2, [], []⟩, ⟨3, [], []⟩, ⟨4, [], []⟩, ⟨5, [], []⟩, ⟨6, [], []⟩, ⟨7, [], []⟩, ⟨8, [], []⟩], .nil)] _ hK Try.func28 rfl (rs := [.tmp 4]) rfl Try.ntmps28 (by simp) Try.call28 (by kernel_rfl) (fun ha hb => .bool _) (fun hb ha => ?_)
  have hlen := sm_len hpre
  simp (maxSteps := 2000000) (disch := first | assumption | (refine asm_intro ?_; assumption) | exact Nat.le_add_right _ _ | exact Nat.le_refl _ | omega | (simp (disch := first | exact Nat.le_add_right _ _ | omega) only [Le_upd hb, Le_rfl, free_T hb]; done) | fail) only [go_sem, push_cast, and_pos, Le_upd hb, free_T hb]
  refine Cnp.of (fun hl => ?_) (fun hl => cmp_len (by omega))
  have hl' : xs.length = ys.length := by omega
  refine tr_for (fun i => ∀ j, j < i → xs[j]? = ys[j]?) xs.length (fun i => [(0, lst xs), (1, lst ys), (5, .int .i64 i)]) (fun j h => by omega) (by simp only [go_sem, push_cast, and_pos]) ?_
  intro i B0 hI hi hB
  refine vq_conv pok (E := (Env.base _)) (PL := [(6, [0,1,2,3,4,5,6,7,8], [⟨0, [], []⟩, ⟨1, [], []⟩, ⟨2, [], []⟩, ⟨3, [], []⟩, ⟨4, [], []⟩, ⟨5, [], []⟩, ⟨6, [], []⟩, ⟨7, [], []⟩, ⟨8, [], []⟩], .nil)]) (by kernel_rfl) ?_
  rcases Nat.lt_or_ge i xs.length with hlt | hge
  · have e1 : xs[i]? = some xs[i] := List.getElem?_eq_getElem hlt
    have e2 : ys[i]? = some (ys[i]'(by omega)) := List.getElem?_eq_getElem _
    have hx := sm_mem hpre (List.getElem_mem hlt)
    simp (maxSteps := 2000000) (disch := first | assumption | (refine asm_intro ?_; assumption) | exact Nat.le_add_right _ _ | exact Nat.le_refl _ | omega | (simp (disch := first | exact Nat.le_add_right _ _ | omega) only [Le_upd hb, Le_rfl, free_T hb]; done) | fail) only [go_sem, push_cast, and_pos, Le_upd hb, free_T hb, e1, e2, hx]
    exact cmp_step hl' hI hlt (by omega) rfl fun h => h
  · simp (maxSteps := 2000000) (disch := first | assumption | (refine asm_intro ?_; assumption) | exact Nat.le_add_right _ _ | exact Nat.le_refl _ | omega | (simp (disch := first | exact Nat.le_add_right _ _ | omega) only [Le_upd hb, Le_rfl, free_T hb]; done) | fail) only [go_sem, push_cast, and_pos, Le_upd hb, free_T hb]
    refine vq_conv pok (E := (Env.base _)) (PL := [(6, [0,1,2,3,4,5,6,7,8], [⟨0, [], []⟩, ⟨1, [], []⟩, ⟨2, [], []⟩, ⟨3, [], []⟩, ⟨4, [], []⟩, ⟨5, [], []⟩, ⟨6, [], []⟩, ⟨7, [], []⟩, ⟨8, [], []⟩], .nil)]) (by kernel_rfl) ?_
    simp (maxSteps := 2000000) (disch := first | assumption | (refine asm_intro ?_; assumption) | exact Nat.le_add_right _ _ | exact Nat.le_refl _ | omega | (simp (disch := first | exact Nat.le_add_right _ _ | omega) only [Le_upd hb, Le_rfl, free_T hb]; done) | fail) only [go_sem, push_cast, and_pos, Le_upd hb, free_T hb]
    exact cmp_end hl' hI hge
def V65 : Trans := fun args H Bd K => ∃ (x : GEquation) (y : GEquation), args = [.agg (enc (x)).toArray, .agg (enc (y)).toArray] ∧ ((sm x) ∧ K (.bool (decide (x = y))) H Bd)
@[go_sem ↓] theorem V65_eq (x_left : List Int) (x_right : List Int) (y_left : List Int) (y_right : List Int) (H : AH) (Bd : Nat) (K : Value → AH → Nat → Prop) : V65 [.agg #[lst (x_left), lst (x_right)], .agg #[lst (y_left), lst (y_right)]] H Bd K = ((sm (GEquation.mk x_left x_right)) ∧ K (.bool (decide ((GEquation.mk x_left x_right) = (GEquation.mk y_left y_right)))) H Bd) := by
  refine propext ⟨fun h => ?_, fun h => ⟨_, _, rfl, h⟩⟩
  obtain ⟨x', y', e, h⟩ := h
  obtain ⟨xleft', xright'⟩ := x'
  obtain ⟨yleft', yright'⟩ := y'
  simp only [enc_GEquation, List.cons.injEq, Value.agg.injEq, toArr_inj, Value.int.injEq, Value.bool.injEq, Value.string.injEq, Value.slice.injEq, Value.pointer.injEq, Option.some.injEq, Addr.mk.injEq, lst_inj, true_and, and_true] at e
  obtain ⟨⟨rfl, rfl⟩, ⟨rfl, rfl⟩⟩ := e
  exact h
def W65 : Trans := fun args H Bd K => ∃ (px py : Value), args = [px, py] ∧ Yld (cellsAt H 2 px) fun cx => Yld (cellsAt H 2 py) fun cy => callW V65 [.agg cx.toArray, .agg cy.toArray] H Bd K
@[go_sem ↓] theorem W65_eq (px py : Value) (H : AH) (Bd : Nat) (K : Value → AH → Nat → Prop) : W65 [px, py] H Bd K = (Yld (cellsAt H 2 px) fun cx => Yld (cellsAt H 2 py) fun cy => callW V65 (idS [.agg cx.toArray, .agg cy.toArray]) H Bd K) := by
  refine propext ⟨fun h => ?_, fun h => ⟨_, _, rfl, h⟩⟩
  obtain ⟨px', py', e, h⟩ := h
  simp only [List.cons.injEq, and_true] at e
  obtain ⟨rfl, rfl⟩ := e
  exact h
theorem W65_ok : ∀ args H Bd K, W65 args H Bd K → SCalls Try.prog 65 args H Bd K := by
  rintro args H Bd K ⟨px, py, rfl, cx, ex, cy, ey, h⟩
  obtain ⟨x, y, e, hpre, hK⟩ := h
  simp only [List.cons.injEq, and_true] at e
  obtain ⟨Ex, Ey⟩ := e
  obtain rfl := agg_inj Ex
  obtain rfl := agg_inj Ey
  refine fn_pure pok ((Env.base _).add 28 W28 W28_ok) [(1, [0,1,2,3,4,5,6,7,8,9,10,11,12,13,14,15,16,17,18,19,20], [⟨0, [], []⟩, ⟨1, [], []⟩, ⟨2, [], []⟩, ⟨3, [], []⟩, ⟨4, [], []⟩, ⟨5, [], []⟩, ⟨6, [], []⟩, ⟨7, [], []⟩, ⟨8, [], []⟩, ⟨9, [], []⟩, ⟨10, [], []⟩, ⟨11, [], []⟩, ⟨12, [], []⟩, ⟨13, [], []⟩, ⟨14, [], []⟩, ⟨15, [], []⟩, ⟨16, [], []⟩, ⟨17, [], []⟩, ⟨18, [], []⟩, ⟨19, [], []⟩, ⟨20, [], []⟩], .nil)] _ hK Try.func65 rfl (rs := [.tmp 4]) rfl Try.ntmps65 (by simp) Try.call65 (by kernel_rfl) (fun ha hb => .bool _) (fun hb ha => ?_)
  have Px := cellsAt_out ex (NB.vpok (ha px (by simp)))
  simp only [enc_GEquation] at Px
  have Py := cellsAt_out ey (NB.vpok (ha py (by simp)))
  simp only [enc_GEquation] at Py
  simp only [sm_GEquation] at hpre
  simp (maxSteps := 2000000) (disch := first | assumption | (refine asm_intro ?_; assumption) | exact Nat.le_add_right _ _ | exact Nat.le_refl _ | omega | (simp (disch := first | exact Nat.le_add_right _ _ | omega) only [Le_upd hb, Le_rfl, free_T hb]; done) | fail) only [go_sem, push_cast, and_pos, Le_upd hb, free_T hb, Px.nil, Px.fldL (m := 2) rfl, Px.ldL (m := 2) rfl, Px.ld0L (m := 2) rfl, Px.cellsL (m := 2) rfl, Px.cellsOL (m := 2) rfl, Py.nil, Py.fldL (m := 2) rfl, Py.ldL (m := 2) rfl, Py.ld0L (m := 2) rfl, Py.cellsL (m := 2) rfl, Py.cellsOL (m := 2) rfl, hpre]
  all_goals (cases x; cases y)
  all_goals first | done | trivial | ((try simp only [Cnp, Imp]); grind)

def W59 : Trans := fun args H Bd K => ∃ (xs : List GEquation) (ys : List GEquation), args = [lst (xs), lst (ys)] ∧ ((sm xs) ∧ K (.bool (decide (xs = ys))) H Bd)
@[go_sem ↓] theorem W59_eq (xs : List GEquation) (ys : List GEquation) (H : AH) (Bd : Nat) (K : Value → AH → Nat → Prop) : W59 [lst (xs), lst (ys)] H Bd K = ((sm xs) ∧ K (.bool (decide (xs = ys))) H Bd) := by
  refine propext ⟨fun h => ?_, fun h => ⟨_, _, rfl, h⟩⟩
  obtain ⟨xs', ys', e, h⟩ := h
  skip
  skip
  simp only [List.cons.injEq, Value.agg.injEq, toArr_inj, Value.int.injEq, Value.bool.injEq, Value.string.injEq, Value.slice.injEq, Value.pointer.injEq, Option.some.injEq, Addr.mk.injEq, lst_inj, true_and, and_true] at e
  obtain ⟨rfl, rfl⟩ := e
  exact h
theorem W59_ok : ∀ args H Bd K, W59 args H Bd K → SCalls Try.prog 59 args H Bd K := by
  rintro args H Bd K ⟨xs, ys, rfl, hpre, hK⟩
  refine fn_pure pok ((Env.base _).add 65 W65 W65_ok) [(6, [0,1,2,3,4,5,6,7], [⟨0, [], []⟩, ⟨1, [], []⟩, ⟨2, [], []⟩, ⟨3, [], []⟩, ⟨4, [], []⟩, ⟨5, [], []⟩, ⟨6, [], []⟩, ⟨7, [], []⟩], .nil)] _ hK Try.func59 rfl (rs := [.tmp 4]) rfl Try.ntmps59 (by simp) Try.call59 (by kernel_rfl) (fun ha hb => .bool _) (fun hb ha => ?_)
  have hlen := sm_len hpre
  simp (maxSteps := 2000000) (disch := first | assumption | (refine asm_intro ?_; assumption) | exact Nat.le_add_right _ _ | exact Nat.le_refl _ | omega | (simp (disch := first | exact Nat.le_add_right _ _ | omega) only [Le_upd hb, Le_rfl, free_T hb]; done) | fail) only [go_sem, push_cast, and_pos, Le_upd hb, free_T hb]
  refine Cnp.of (fun hl => ?_) (fun hl => cmp_len (by omega))
  have hl' : xs.length = ys.length := by omega
  refine tr_for (fun i => ∀ j, j < i → xs[j]? = ys[j]?) xs.length (fun i => [(0, lst xs), (1, lst ys), (5, .int .i64 i)]) (fun j h => by omega) (by simp only [go_sem, push_cast, and_pos]) ?_
  intro i B0 hI hi hB
  refine vq_conv pok (E := ((Env.base _).add 65 W65 W65_ok)) (PL := [(6, [0,1,2,3,4,5,6,7], [⟨0, [], []⟩, ⟨1, [], []⟩, ⟨2, [], []⟩, ⟨3, [], []⟩, ⟨4, [], []⟩, ⟨5, [], []⟩, ⟨6, [], []⟩, ⟨7, [], []⟩], .nil)]) (by kernel_rfl) ?_
  rcases Nat.lt_or_ge i xs.length with hlt | hge
  · have e1 : xs[i]? = some xs[i] := List.getElem?_eq_getElem hlt
    have e2 : ys[i]? = some (ys[i]'(by omega)) := List.getElem?_eq_getElem _
    have hx := sm_mem hpre (List.getElem_mem hlt)
    simp (maxSteps := 2000000) (disch := first | assumption | (refine asm_intro ?_; assumption) | exact Nat.le_add_right _ _ | exact Nat.le_refl _ | omega | (simp (disch := first | exact Nat.le_add_right _ _ | omega) only [Le_upd hb, Le_rfl, free_T hb]; done) | fail) only [go_sem, push_cast, and_pos, Le_upd hb, free_T hb, e1, e2, hx]
    exact cmp_step hl' hI hlt (by omega) rfl fun h => h
  · simp (maxSteps := 2000000) (disch := first | assumption | (refine asm_intro ?_; assumption) | exact Nat.le_add_right _ _ | exact Nat.le_refl _ | omega | (simp (disch := first | exact Nat.le_add_right _ _ | omega) only [Le_upd hb, Le_rfl, free_T hb]; done) | fail) only [go_sem, push_cast, and_pos, Le_upd hb, free_T hb]
    refine vq_conv pok (E := ((Env.base _).add 65 W65 W65_ok)) (PL := [(6, [0,1,2,3,4,5,6,7], [⟨0, [], []⟩, ⟨1, [], []⟩, ⟨2, [], []⟩, ⟨3, [], []⟩, ⟨4, [], []⟩, ⟨5, [], []⟩, ⟨6, [], []⟩, ⟨7, [], []⟩], .nil)]) (by kernel_rfl) ?_
    simp (maxSteps := 2000000) (disch := first | assumption | (refine asm_intro ?_; assumption) | exact Nat.le_add_right _ _ | exact Nat.le_refl _ | omega | (simp (disch := first | exact Nat.le_add_right _ _ | omega) only [Le_upd hb, Le_rfl, free_T hb]; done) | fail) only [go_sem, push_cast, and_pos, Le_upd hb, free_T hb]
    exact cmp_end hl' hI hge

def W44 : Trans := fun args H Bd K => ∃ (x : GTheory) (y : GTheory), args = [.agg (enc (x)).toArray, .agg (enc (y)).toArray] ∧ ((sm x) ∧ K (.bool (decide (x = y))) H Bd)
@[go_sem ↓] theorem W44_eq (x_order : List Int) (x_equations : List GEquation) (x_rules : List GEquation) (y_order : List Int) (y_equations : List GEquation) (y_rules : List GEquation) (H : AH) (Bd : Nat) (K : Value → AH → Nat → Prop) : W44 [.agg #[lst (x_order), lst (x_equations), lst (x_rules)], .agg #[lst (y_order), lst (y_equations), lst (y_rules)]] H Bd K = ((sm (GTheory.mk x_order x_equations x_rules)) ∧ K (.bool (decide ((GTheory.mk x_order x_equations x_rules) = (GTheory.mk y_order y_equations y_rules)))) H Bd) := by
  refine propext ⟨fun h => ?_, fun h => ⟨_, _, rfl, h⟩⟩
  obtain ⟨x', y', e, h⟩ := h
  obtain ⟨xorder', xequations', xrules'⟩ := x'
  obtain ⟨yorder', yequations', yrules'⟩ := y'
  simp only [enc_GTheory, List.cons.injEq, Value.agg.injEq, toArr_inj, Value.int.injEq, Value.bool.injEq, Value.string.injEq, Value.slice.injEq, Value.pointer.injEq, Option.some.injEq, Addr.mk.injEq, lst_inj, true_and, and_true] at e
  obtain ⟨⟨rfl, rfl, rfl⟩, ⟨rfl, rfl, rfl⟩⟩ := e
  exact h
theorem W44_ok : ∀ args H Bd K, W44 args H Bd K → SCalls Try.prog 44 args H Bd K := by
  rintro args H Bd K ⟨x, y, rfl, hpre, hK⟩
  refine fn_pure pok (((Env.base _).add 28 W28 W28_ok).add 59 W59 W59_ok) [(1, [], [], (.k 6 (.grp true 10 15 5 [11, 12, 13, 14, 15] 16 none (.k 5 .nil) (.k 1 (.grp true 17 22 5 [18, 19, 20, 21, 22] 23 none (.k 5 .nil) (.k 1 .nil))))))] _ hK Try.func44 rfl (rs := [.tmp 4]) rfl Try.ntmps44 (by simp) Try.call44 (by kernel_rfl) (fun ha hb => .bool _) (fun hb ha => ?_)
  simp only [sm_GTheory] at hpre
  simp (maxSteps := 2000000) (disch := first | assumption | (refine asm_intro ?_; assumption) | exact Nat.le_add_right _ _ | exact Nat.le_refl _ | omega | (simp (disch := first | exact Nat.le_add_right _ _ | omega) only [Le_upd hb, Le_rfl, free_T hb]; done) | fail) only [go_sem, push_cast, and_pos, Le_upd hb, free_T hb, hpre]
  all_goals (cases x; cases y)
  all_goals first | done | trivial | ((try simp only [Cnp, Imp]); grind)

def W11 : Trans := fun args H Bd K => ∃ (xs : List GRecord) (ys : List GRecord), args = [lst (xs), lst (ys)] ∧ ((sm xs) ∧ K (.bool (decide (xs = ys))) H Bd)
@[go_sem ↓] theorem W11_eq (xs : List GRecord) (ys : List GRecord) (H : AH) (Bd : Nat) (K : Value → AH → Nat → Prop) : W11 [lst (xs), lst (ys)] H Bd K = ((sm xs) ∧ K (.bool (decide (xs = ys))) H Bd) := by
  refine propext ⟨fun h => ?_, fun h => ⟨_, _, rfl, h⟩⟩
  obtain ⟨xs', ys', e, h⟩ := h
  skip
  skip
  simp only [List.cons.injEq, Value.agg.injEq, toArr_inj, Value.int.injEq, Value.bool.injEq, Value.string.injEq, Value.slice.injEq, Value.pointer.injEq, Option.some.injEq, Addr.mk.injEq, lst_inj, true_and, and_true] at e
  obtain ⟨rfl, rfl⟩ := e
  exact h
set_option maxHeartbeats 2000000 in
theorem W11_ok : ∀ args H Bd K, W11 args H Bd K → SCalls Try.prog 11 args H Bd K := by
  rintro args H Bd K ⟨xs, ys, rfl, hpre, hK⟩
  refine fn_pure pok ((Env.base _).add 28 W28 W28_ok) [(6, [0,1,2,3,4,5,6,7,8,9,10,11,12,13,14,15,16,17,18,19,20,21,22,23,24], [⟨0, [], []⟩, ⟨1, [], []⟩, ⟨2, [], []⟩, ⟨3, [], []⟩, ⟨4, [], []⟩, ⟨5, [], []⟩, ⟨6, [], []⟩, ⟨7, [], []⟩, ⟨8, [], []⟩, ⟨9, [], []⟩, ⟨10, [], []⟩, ⟨11, [], []⟩, ⟨12, [], []⟩, ⟨13, [], []⟩, ⟨14, [], []⟩, ⟨15, [], []⟩, ⟨16, [], []⟩, ⟨17, [], []⟩, ⟨18, [], []⟩, ⟨19, [], []⟩, ⟨20, [], []⟩, ⟨21, [], []⟩, ⟨22, [], []⟩, ⟨23, [], []⟩, ⟨24, [], []⟩], .nil)] _ hK Try.func11 rfl (rs := [.tmp 4]) rfl Try.ntmps11 (by simp) Try.call11 (by kernel_rfl) (fun ha hb => .bool _) (fun hb ha => ?_)
  have hlen := sm_len hpre
  simp (maxSteps := 2000000) (disch := first | assumption | (refine asm_intro ?_; assumption) | exact Nat.le_add_right _ _ | exact Nat.le_refl _ | omega | (simp (disch := first | exact Nat.le_add_right _ _ | omega) only [Le_upd hb, Le_rfl, free_T hb]; done) | fail) only [go_sem, push_cast, and_pos, Le_upd hb, free_T hb]
  refine Cnp.of (fun hl => ?_) (fun hl => cmp_len (by omega))
  have hl' : xs.length = ys.length := by omega
  refine tr_for (fun i => ∀ j, j < i → xs[j]? = ys[j]?) xs.length (fun i => [(0, lst xs), (1, lst ys), (5, .int .i64 i)]) (fun j h => by omega) (by simp only [go_sem, push_cast, and_pos]) ?_
  intro i B0 hI hi hB
  refine vq_conv pok (E := ((Env.base _).add 28 W28 W28_ok)) (PL := [(6, [0,1,2,3,4,5,6,7,8,9,10,11,12,13,14,15,16,17,18,19,20,21,22,23,24], [⟨0, [], []⟩, ⟨1, [], []⟩, ⟨2, [], []⟩, ⟨3, [], []⟩, ⟨4, [], []⟩, ⟨5, [], []⟩, ⟨6, [], []⟩, ⟨7, [], []⟩, ⟨8, [], []⟩, ⟨9, [], []⟩, ⟨10, [], []⟩, ⟨11, [], []⟩, ⟨12, [], []⟩, ⟨13, [], []⟩, ⟨14, [], []⟩, ⟨15, [], []⟩, ⟨16, [], []⟩, ⟨17, [], []⟩, ⟨18, [], []⟩, ⟨19, [], []⟩, ⟨20, [], []⟩, ⟨21, [], []⟩, ⟨22, [], []⟩, ⟨23, [], []⟩, ⟨24, [], []⟩], .nil)]) (by kernel_rfl) ?_
  rcases Nat.lt_or_ge i xs.length with hlt | hge
  · have e1 : xs[i]? = some xs[i] := List.getElem?_eq_getElem hlt
    have e2 : ys[i]? = some (ys[i]'(by omega)) := List.getElem?_eq_getElem _
    have hx := sm_mem hpre (List.getElem_mem hlt)
    simp only [sm_GRecord] at hx
    simp (maxSteps := 2000000) (disch := first | assumption | (refine asm_intro ?_; assumption) | exact Nat.le_add_right _ _ | exact Nat.le_refl _ | omega | (simp (disch := first | exact Nat.le_add_right _ _ | omega) only [Le_upd hb, Le_rfl, free_T hb]; done) | fail) only [go_sem, push_cast, and_pos, Le_upd hb, free_T hb, e1, e2, hx]
    have hc := cmp_step (A := ∀ j, j < i + 1 → xs[j]? = ys[j]?) hl' hI hlt (by omega) rfl fun h => h
    generalize (∀ j, j < i + 1 → xs[j]? = ys[j]?) = A at hc ⊢
    generalize xs[i] = x at hc ⊢
    generalize ys[i] = y at hc ⊢
    cases x; cases y
    simp only [Cnp, Imp, GRecord.mk.injEq] at hc ⊢
    grind
  · simp (maxSteps := 2000000) (disch := first | assumption | (refine asm_intro ?_; assumption) | exact Nat.le_add_right _ _ | exact Nat.le_refl _ | omega | (simp (disch := first | exact Nat.le_add_right _ _ | omega) only [Le_upd hb, Le_rfl, free_T hb]; done) | fail) only [go_sem, push_cast, and_pos, Le_upd hb, free_T hb]
    refine vq_conv pok (E := ((Env.base _).add 28 W28 W28_ok)) (PL := [(6, [0,1,2,3,4,5,6,7,8,9,10,11,12,13,14,15,16,17,18,19,20,21,22,23,24], [⟨0, [], []⟩, ⟨1, [], []⟩, ⟨2, [], []⟩, ⟨3, [], []⟩, ⟨4, [], []⟩, ⟨5, [], []⟩, ⟨6, [], []⟩, ⟨7, [], []⟩, ⟨8, [], []⟩, ⟨9, [], []⟩, ⟨10, [], []⟩, ⟨11, [], []⟩, ⟨12, [], []⟩, ⟨13, [], []⟩, ⟨14, [], []⟩, ⟨15, [], []⟩, ⟨16, [], []⟩, ⟨17, [], []⟩, ⟨18, [], []⟩, ⟨19, [], []⟩, ⟨20, [], []⟩, ⟨21, [], []⟩, ⟨22, [], []⟩, ⟨23, [], []⟩, ⟨24, [], []⟩], .nil)]) (by kernel_rfl) ?_
    simp (maxSteps := 2000000) (disch := first | assumption | (refine asm_intro ?_; assumption) | exact Nat.le_add_right _ _ | exact Nat.le_refl _ | omega | (simp (disch := first | exact Nat.le_add_right _ _ | omega) only [Le_upd hb, Le_rfl, free_T hb]; done) | fail) only [go_sem, push_cast, and_pos, Le_upd hb, free_T hb]
    exact cmp_end hl' hI hge

def W21 : Trans := fun args H Bd K => ∃ (x : GBook) (y : GBook), args = [.agg (enc (x)).toArray, .agg (enc (y)).toArray] ∧ ((sm x) ∧ K (.bool (decide (x = y))) H Bd)
@[go_sem ↓] theorem W21_eq (x_symbols_symbols : List GSymbol) (x_version : Int) (x_theory_order : List Int) (x_theory_equations : List GEquation) (x_theory_rules : List GEquation) (x_moving : Bool) (x_next_order : List Int) (x_next_equations : List GEquation) (x_next_rules : List GEquation) (x_cursor : List UInt8) (x_records : List GRecord) (y_symbols_symbols : List GSymbol) (y_version : Int) (y_theory_order : List Int) (y_theory_equations : List GEquation) (y_theory_rules : List GEquation) (y_moving : Bool) (y_next_order : List Int) (y_next_equations : List GEquation) (y_next_rules : List GEquation) (y_cursor : List UInt8) (y_records : List GRecord) (H : AH) (Bd : Nat) (K : Value → AH → Nat → Prop) : W21 [.agg #[lst (x_symbols_symbols), .int .i64 (x_version), lst (x_theory_order), lst (x_theory_equations), lst (x_theory_rules), .bool (x_moving), lst (x_next_order), lst (x_next_equations), lst (x_next_rules), lst (x_cursor), lst (x_records)], .agg #[lst (y_symbols_symbols), .int .i64 (y_version), lst (y_theory_order), lst (y_theory_equations), lst (y_theory_rules), .bool (y_moving), lst (y_next_order), lst (y_next_equations), lst (y_next_rules), lst (y_cursor), lst (y_records)]] H Bd K = ((sm (GBook.mk (GSignature.mk x_symbols_symbols) x_version (GTheory.mk x_theory_order x_theory_equations x_theory_rules) x_moving (GTheory.mk x_next_order x_next_equations x_next_rules) x_cursor x_records)) ∧ K (.bool (decide ((GBook.mk (GSignature.mk x_symbols_symbols) x_version (GTheory.mk x_theory_order x_theory_equations x_theory_rules) x_moving (GTheory.mk x_next_order x_next_equations x_next_rules) x_cursor x_records) = (GBook.mk (GSignature.mk y_symbols_symbols) y_version (GTheory.mk y_theory_order y_theory_equations y_theory_rules) y_moving (GTheory.mk y_next_order y_next_equations y_next_rules) y_cursor y_records)))) H Bd) := by
  refine propext ⟨fun h => ?_, fun h => ⟨_, _, rfl, h⟩⟩
  obtain ⟨x', y', e, h⟩ := h
  obtain ⟨⟨xsymbolssymbols'⟩, xversion', ⟨xtheoryorder', xtheoryequations', xtheoryrules'⟩, xmoving', ⟨xnext_order', xnext_equations', xnext_rules'⟩, xcursor', xrecords'⟩ := x'
  obtain ⟨⟨ysymbolssymbols'⟩, yversion', ⟨ytheoryorder', ytheoryequations', ytheoryrules'⟩, ymoving', ⟨ynext_order', ynext_equations', ynext_rules'⟩, ycursor', yrecords'⟩ := y'
  simp only [enc_GBook, enc_GSignature, enc_GTheory, List.cons.injEq, Value.agg.injEq, toArr_inj, Value.int.injEq, Value.bool.injEq, Value.string.injEq, Value.slice.injEq, Value.pointer.injEq, Option.some.injEq, Addr.mk.injEq, lst_inj, true_and, and_true] at e
  obtain ⟨⟨rfl, rfl, rfl, rfl, rfl, rfl, rfl, rfl, rfl, rfl, rfl⟩, ⟨rfl, rfl, rfl, rfl, rfl, rfl, rfl, rfl, rfl, rfl, rfl⟩⟩ := e
  exact h
set_option maxHeartbeats 2000000 in
theorem W21_ok : ∀ args H Bd K, W21 args H Bd K → SCalls Try.prog 21 args H Bd K := by
  rintro args H Bd K ⟨x, y, rfl, hpre, hK⟩
  refine fn_pure pok ((((Env.base _).add 43 W43 W43_ok).add 44 W44 W44_ok).add 11 W11 W11_ok) [(1, [], [], (.k 6 (.grp true 10 15 5 [11, 12, 13, 14, 15] 16 none (.k 5 .nil) (.k 1 (.grp true 17 22 5 [18, 19, 20, 21, 22] 23 none (.k 5 .nil) (.k 1 (.grp true 24 29 5 [25, 26, 27, 28, 29] 30 none (.k 5 .nil) (.k 1 (.grp true 31 36 5 [32, 33, 34, 35, 36] 37 none (.k 5 .nil) (.k 1 (.grp true 38 45 7 [39, 40, 41, 42, 43, 44, 45] 46 none (.k 7 .nil) (.k 1 (.grp true 47 52 5 [48, 49, 50, 51, 52] 53 none (.k 5 .nil) (.k 1 .nil))))))))))))))] _ hK Try.func21 rfl (rs := [.tmp 4]) rfl Try.ntmps21 (by simp) Try.call21 (by kernel_rfl) (fun ha hb => .bool _) (fun hb ha => ?_)
  simp only [sm_GBook] at hpre
  simp (maxSteps := 2000000) (disch := first | assumption | (refine asm_intro ?_; assumption) | exact Nat.le_add_right _ _ | exact Nat.le_refl _ | omega | (simp (disch := first | exact Nat.le_add_right _ _ | omega) only [Le_upd hb, Le_rfl, free_T hb]; done) | fail) only [go_sem, push_cast, and_pos, Le_upd hb, free_T hb, hpre]
  all_goals (cases x; cases y)
  all_goals first | done | trivial | ((try simp only [Cnp, Imp]); grind)

def W61 : Trans := fun args H Bd K => ∃ (xs : List GSymbol) (ys : List GSymbol), args = [lst (xs), lst (ys)] ∧ ((sm xs) ∧ K (.bool (decide (xs = ys))) H Bd)
@[go_sem ↓] theorem W61_eq (xs : List GSymbol) (ys : List GSymbol) (H : AH) (Bd : Nat) (K : Value → AH → Nat → Prop) : W61 [lst (xs), lst (ys)] H Bd K = ((sm xs) ∧ K (.bool (decide (xs = ys))) H Bd) := by
  refine propext ⟨fun h => ?_, fun h => ⟨_, _, rfl, h⟩⟩
  obtain ⟨xs', ys', e, h⟩ := h
  skip
  skip
  simp only [List.cons.injEq, Value.agg.injEq, toArr_inj, Value.int.injEq, Value.bool.injEq, Value.string.injEq, Value.slice.injEq, Value.pointer.injEq, Option.some.injEq, Addr.mk.injEq, lst_inj, true_and, and_true] at e
  obtain ⟨rfl, rfl⟩ := e
  exact h
theorem W61_ok : ∀ args H Bd K, W61 args H Bd K → SCalls Try.prog 61 args H Bd K := by
  rintro args H Bd K ⟨xs, ys, rfl, hpre, hK⟩
  refine fn_pure pok (Env.base _) [(6, [0,1,2,3,4,5,6,7,8], [⟨0, [], []⟩, ⟨1, [], []⟩, ⟨2, [], []⟩, ⟨3, [], []⟩, ⟨4, [], []⟩, ⟨5, [], []⟩, ⟨6, [], []⟩, ⟨7, [], []⟩, ⟨8, [], []⟩], .nil)] _ hK Try.func61 rfl (rs := [.tmp 4]) rfl Try.ntmps61 (by simp) Try.call61 (by kernel_rfl) (fun ha hb => .bool _) (fun hb ha => ?_)
  have hlen := sm_len hpre
  simp (maxSteps := 2000000) (disch := first | assumption | (refine asm_intro ?_; assumption) | exact Nat.le_add_right _ _ | exact Nat.le_refl _ | omega | (simp (disch := first | exact Nat.le_add_right _ _ | omega) only [Le_upd hb, Le_rfl, free_T hb]; done) | fail) only [go_sem, push_cast, and_pos, Le_upd hb, free_T hb]
  refine Cnp.of (fun hl => ?_) (fun hl => cmp_len (by omega))
  have hl' : xs.length = ys.length := by omega
  refine tr_for (fun i => ∀ j, j < i → xs[j]? = ys[j]?) xs.length (fun i => [(0, lst xs), (1, lst ys), (12, .int .i64 xs.length), (13, .int .i64 i)]) (fun j h => by omega) (by simp only [go_sem, push_cast, and_pos]) ?_
  intro i B0 hI hi hB
  refine vq_conv pok (E := (Env.base _)) (PL := [(6, [0,1,2,3,4,5,6,7,8], [⟨0, [], []⟩, ⟨1, [], []⟩, ⟨2, [], []⟩, ⟨3, [], []⟩, ⟨4, [], []⟩, ⟨5, [], []⟩, ⟨6, [], []⟩, ⟨7, [], []⟩, ⟨8, [], []⟩], .nil)]) (by kernel_rfl) ?_
  rcases Nat.lt_or_ge i xs.length with hlt | hge
  · have e1 : xs[i]? = some xs[i] := List.getElem?_eq_getElem hlt
    have e2 : ys[i]? = some (ys[i]'(by omega)) := List.getElem?_eq_getElem _
    have hx := sm_mem hpre (List.getElem_mem hlt)
    simp (maxSteps := 2000000) (disch := first | assumption | (refine asm_intro ?_; assumption) | exact Nat.le_add_right _ _ | exact Nat.le_refl _ | omega | (simp (disch := first | exact Nat.le_add_right _ _ | omega) only [Le_upd hb, Le_rfl, free_T hb]; done) | fail) only [go_sem, push_cast, and_pos, Le_upd hb, free_T hb, e1, e2, hx]
    have hc := cmp_step (A := ∀ j, j < i + 1 → xs[j]? = ys[j]?) hl' hI hlt (by omega) rfl fun h => h
    generalize (∀ j, j < i + 1 → xs[j]? = ys[j]?) = A at hc ⊢
    generalize xs[i] = x at hc ⊢
    generalize ys[i] = y at hc ⊢
    cases x; cases y
    simp only [Cnp, Imp, GSymbol.mk.injEq] at hc ⊢
    grind
  · simp (maxSteps := 2000000) (disch := first | assumption | (refine asm_intro ?_; assumption) | exact Nat.le_add_right _ _ | exact Nat.le_refl _ | omega | (simp (disch := first | exact Nat.le_add_right _ _ | omega) only [Le_upd hb, Le_rfl, free_T hb]; done) | fail) only [go_sem, push_cast, and_pos, Le_upd hb, free_T hb]
    refine vq_conv pok (E := (Env.base _)) (PL := [(6, [0,1,2,3,4,5,6,7,8], [⟨0, [], []⟩, ⟨1, [], []⟩, ⟨2, [], []⟩, ⟨3, [], []⟩, ⟨4, [], []⟩, ⟨5, [], []⟩, ⟨6, [], []⟩, ⟨7, [], []⟩, ⟨8, [], []⟩], .nil)]) (by kernel_rfl) ?_
    simp (maxSteps := 2000000) (disch := first | assumption | (refine asm_intro ?_; assumption) | exact Nat.le_add_right _ _ | exact Nat.le_refl _ | omega | (simp (disch := first | exact Nat.le_add_right _ _ | omega) only [Le_upd hb, Le_rfl, free_T hb]; done) | fail) only [go_sem, push_cast, and_pos, Le_upd hb, free_T hb]
    exact cmp_end hl' hI hge

def W48 : Trans := fun args H Bd K => ∃ (x : GSignature) (y : GSignature), args = [.agg (enc (x)).toArray, .agg (enc (y)).toArray] ∧ ((sm x) ∧ K (.bool (decide (x = y))) H Bd)
@[go_sem ↓] theorem W48_eq (x_symbols : List GSymbol) (y_symbols : List GSymbol) (H : AH) (Bd : Nat) (K : Value → AH → Nat → Prop) : W48 [.agg #[lst (x_symbols)], .agg #[lst (y_symbols)]] H Bd K = ((sm (GSignature.mk x_symbols)) ∧ K (.bool (decide ((GSignature.mk x_symbols) = (GSignature.mk y_symbols)))) H Bd) := by
  refine propext ⟨fun h => ?_, fun h => ⟨_, _, rfl, h⟩⟩
  obtain ⟨x', y', e, h⟩ := h
  obtain ⟨xsymbols'⟩ := x'
  obtain ⟨ysymbols'⟩ := y'
  simp only [enc_GSignature, List.cons.injEq, Value.agg.injEq, toArr_inj, Value.int.injEq, Value.bool.injEq, Value.string.injEq, Value.slice.injEq, Value.pointer.injEq, Option.some.injEq, Addr.mk.injEq, lst_inj, true_and, and_true] at e
  obtain ⟨rfl, rfl⟩ := e
  exact h
theorem W48_ok : ∀ args H Bd K, W48 args H Bd K → SCalls Try.prog 48 args H Bd K := by
  rintro args H Bd K ⟨x, y, rfl, hpre, hK⟩
  refine fn_pure pok ((Env.base _).add 61 W61 W61_ok) [] _ hK Try.func48 rfl (rs := [.tmp 4]) rfl Try.ntmps48 (by simp) Try.call48 (by kernel_rfl) (fun ha hb => .bool _) (fun hb ha => ?_)
  simp only [sm_GSignature] at hpre
  simp (maxSteps := 2000000) (disch := first | assumption | (refine asm_intro ?_; assumption) | exact Nat.le_add_right _ _ | exact Nat.le_refl _ | omega | (simp (disch := first | exact Nat.le_add_right _ _ | omega) only [Le_upd hb, Le_rfl, free_T hb]; done) | fail) only [go_sem, push_cast, and_pos, Le_upd hb, free_T hb, hpre]
  all_goals (cases x; cases y)
  all_goals first | done | trivial | ((try simp only [Cnp, Imp]); grind)

def W54 : Trans := fun args H Bd K => ∃ (xs : List Int) (ys : List Int), args = [lst (xs), lst (ys)] ∧ ((sm xs) ∧ K (.bool (decide (xs = ys))) H Bd)
@[go_sem ↓] theorem W54_eq (xs : List Int) (ys : List Int) (H : AH) (Bd : Nat) (K : Value → AH → Nat → Prop) : W54 [lst (xs), lst (ys)] H Bd K = ((sm xs) ∧ K (.bool (decide (xs = ys))) H Bd) := by
  refine propext ⟨fun h => ?_, fun h => ⟨_, _, rfl, h⟩⟩
  obtain ⟨xs', ys', e, h⟩ := h
  skip
  skip
  simp only [List.cons.injEq, Value.agg.injEq, toArr_inj, Value.int.injEq, Value.bool.injEq, Value.string.injEq, Value.slice.injEq, Value.pointer.injEq, Option.some.injEq, Addr.mk.injEq, lst_inj, true_and, and_true] at e
  obtain ⟨rfl, rfl⟩ := e
  exact h
theorem W54_ok : ∀ args H Bd K, W54 args H Bd K → SCalls Try.prog 54 args H Bd K := by
  rintro args H Bd K ⟨xs, ys, rfl, hpre, hK⟩
  refine fn_pure pok (Env.base _) [(6, [0,1,2,3,4,5,6,7,8], [⟨0, [], []⟩, ⟨1, [], []⟩, ⟨2, [], []⟩, ⟨3, [], []⟩, ⟨4, [], []⟩, ⟨5, [], []⟩, ⟨6, [], []⟩, ⟨7, [], []⟩, ⟨8, [], []⟩], .nil)] _ hK Try.func54 rfl (rs := [.tmp 4]) rfl Try.ntmps54 (by simp) Try.call54 (by kernel_rfl) (fun ha hb => .bool _) (fun hb ha => ?_)
  have hlen := sm_len hpre
  simp (maxSteps := 2000000) (disch := first | assumption | (refine asm_intro ?_; assumption) | exact Nat.le_add_right _ _ | exact Nat.le_refl _ | omega | (simp (disch := first | exact Nat.le_add_right _ _ | omega) only [Le_upd hb, Le_rfl, free_T hb]; done) | fail) only [go_sem, push_cast, and_pos, Le_upd hb, free_T hb]
  refine Cnp.of (fun hl => ?_) (fun hl => cmp_len (by omega))
  have hl' : xs.length = ys.length := by omega
  refine tr_for (fun i => ∀ j, j < i → xs[j]? = ys[j]?) xs.length (fun i => [(0, lst xs), (1, lst ys), (12, .int .i64 xs.length), (13, .int .i64 i)]) (fun j h => by omega) (by simp only [go_sem, push_cast, and_pos]) ?_
  intro i B0 hI hi hB
  refine vq_conv pok (E := (Env.base _)) (PL := [(6, [0,1,2,3,4,5,6,7,8], [⟨0, [], []⟩, ⟨1, [], []⟩, ⟨2, [], []⟩, ⟨3, [], []⟩, ⟨4, [], []⟩, ⟨5, [], []⟩, ⟨6, [], []⟩, ⟨7, [], []⟩, ⟨8, [], []⟩], .nil)]) (by kernel_rfl) ?_
  rcases Nat.lt_or_ge i xs.length with hlt | hge
  · have e1 : xs[i]? = some xs[i] := List.getElem?_eq_getElem hlt
    have e2 : ys[i]? = some (ys[i]'(by omega)) := List.getElem?_eq_getElem _
    have hx := sm_mem hpre (List.getElem_mem hlt)
    simp (maxSteps := 2000000) (disch := first | assumption | (refine asm_intro ?_; assumption) | exact Nat.le_add_right _ _ | exact Nat.le_refl _ | omega | (simp (disch := first | exact Nat.le_add_right _ _ | omega) only [Le_upd hb, Le_rfl, free_T hb]; done) | fail) only [go_sem, push_cast, and_pos, Le_upd hb, free_T hb, e1, e2, hx]
    exact cmp_step hl' hI hlt (by omega) rfl fun h => h
  · simp (maxSteps := 2000000) (disch := first | assumption | (refine asm_intro ?_; assumption) | exact Nat.le_add_right _ _ | exact Nat.le_refl _ | omega | (simp (disch := first | exact Nat.le_add_right _ _ | omega) only [Le_upd hb, Le_rfl, free_T hb]; done) | fail) only [go_sem, push_cast, and_pos, Le_upd hb, free_T hb]
    refine vq_conv pok (E := (Env.base _)) (PL := [(6, [0,1,2,3,4,5,6,7,8], [⟨0, [], []⟩, ⟨1, [], []⟩, ⟨2, [], []⟩, ⟨3, [], []⟩, ⟨4, [], []⟩, ⟨5, [], []⟩, ⟨6, [], []⟩, ⟨7, [], []⟩, ⟨8, [], []⟩], .nil)]) (by kernel_rfl) ?_
    simp (maxSteps := 2000000) (disch := first | assumption | (refine asm_intro ?_; assumption) | exact Nat.le_add_right _ _ | exact Nat.le_refl _ | omega | (simp (disch := first | exact Nat.le_add_right _ _ | omega) only [Le_upd hb, Le_rfl, free_T hb]; done) | fail) only [go_sem, push_cast, and_pos, Le_upd hb, free_T hb]
    exact cmp_end hl' hI hge

def W68 : Trans := fun args H Bd K => ∃ (x : GEquation) (y : GEquation), args = [.agg (enc (x)).toArray, .agg (enc (y)).toArray] ∧ ((sm x) ∧ K (.bool (decide (x = y))) H Bd)
@[go_sem ↓] theorem W68_eq (x_left : List Int) (x_right : List Int) (y_left : List Int) (y_right : List Int) (H : AH) (Bd : Nat) (K : Value → AH → Nat → Prop) : W68 [.agg #[lst (x_left), lst (x_right)], .agg #[lst (y_left), lst (y_right)]] H Bd K = ((sm (GEquation.mk x_left x_right)) ∧ K (.bool (decide ((GEquation.mk x_left x_right) = (GEquation.mk y_left y_right)))) H Bd) := by
  refine propext ⟨fun h => ?_, fun h => ⟨_, _, rfl, h⟩⟩
  obtain ⟨x', y', e, h⟩ := h
  obtain ⟨xleft', xright'⟩ := x'
  obtain ⟨yleft', yright'⟩ := y'
  simp only [enc_GEquation, List.cons.injEq, Value.agg.injEq, toArr_inj, Value.int.injEq, Value.bool.injEq, Value.string.injEq, Value.slice.injEq, Value.pointer.injEq, Option.some.injEq, Addr.mk.injEq, lst_inj, true_and, and_true] at e
  obtain ⟨⟨rfl, rfl⟩, ⟨rfl, rfl⟩⟩ := e
  exact h
theorem W68_ok : ∀ args H Bd K, W68 args H Bd K → SCalls Try.prog 68 args H Bd K := by
  rintro args H Bd K ⟨x, y, rfl, hpre, hK⟩
  refine fn_pure pok ((Env.base _).add 54 W54 W54_ok) [(1, [], [], (.k 6 (.grp true 10 15 5 [11, 12, 13, 14, 15] 16 none (.k 5 .nil) (.k 1 .nil))))] _ hK Try.func68 rfl (rs := [.tmp 4]) rfl Try.ntmps68 (by simp) Try.call68 (by kernel_rfl) (fun ha hb => .bool _) (fun hb ha => ?_)
  simp only [sm_GEquation] at hpre
  simp (maxSteps := 2000000) (disch := first | assumption | (refine asm_intro ?_; assumption) | exact Nat.le_add_right _ _ | exact Nat.le_refl _ | omega | (simp (disch := first | exact Nat.le_add_right _ _ | omega) only [Le_upd hb, Le_rfl, free_T hb]; done) | fail) only [go_sem, push_cast, and_pos, Le_upd hb, free_T hb, hpre]
  all_goals (cases x; cases y)
  all_goals first | done | trivial | ((try simp only [Cnp, Imp]); grind)

def W67 : Trans := fun args H Bd K => ∃ (xs : List GEquation) (ys : List GEquation), args = [lst (xs), lst (ys), .func (.func 68) #[] #[]] ∧ ((sm xs) ∧ K (.bool (decide (xs = ys))) H Bd)
@[go_sem ↓] theorem W67_eq (xs : List GEquation) (ys : List GEquation) (H : AH) (Bd : Nat) (K : Value → AH → Nat → Prop) : W67 [lst (xs), lst (ys), .func (.func 68) #[] #[]] H Bd K = ((sm xs) ∧ K (.bool (decide (xs = ys))) H Bd) := by
  refine propext ⟨fun h => ?_, fun h => ⟨_, _, rfl, h⟩⟩
  obtain ⟨xs', ys', e, h⟩ := h
  skip
  skip
  simp only [List.cons.injEq, Value.agg.injEq, toArr_inj, Value.int.injEq, Value.bool.injEq, Value.string.injEq, Value.slice.injEq, Value.pointer.injEq, Option.some.injEq, Addr.mk.injEq, lst_inj, true_and, and_true] at e
  obtain ⟨rfl, rfl⟩ := e
  exact h
set_option maxHeartbeats 2000000 in
theorem W67_ok : ∀ args H Bd K, W67 args H Bd K → SCalls Try.prog 67 args H Bd K := by
  rintro args H Bd K ⟨xs, ys, rfl, hpre, hK⟩
  refine fn_pure pok ((Env.base _).add 68 W68 W68_ok) [] _ hK Try.func67 rfl (rs := [.tmp 6]) rfl Try.ntmps67 (by simp) Try.call67 (by kernel_rfl) (fun ha hb => .bool _) (fun hb ha => ?_)
  have hlen := sm_len hpre
  simp (maxSteps := 2000000) (disch := first | assumption | (refine asm_intro ?_; assumption) | exact Nat.le_add_right _ _ | exact Nat.le_refl _ | omega | (simp (disch := first | exact Nat.le_add_right _ _ | omega) only [Le_upd hb, Le_rfl, free_T hb]; done) | fail) only [go_sem, push_cast, and_pos, Le_upd hb, free_T hb]
  refine Cnp.of (fun hl => ?_) (fun hl => cmp_len (by omega))
  have hl' : xs.length = ys.length := by omega
  refine tr_for (fun i => ∀ j, j < i → xs[j]? = ys[j]?) xs.length (fun i => [(0, lst xs), (1, lst ys), (2, .func (.func 68) #[] #[]), (15, lst xs), (16, .int .i64 xs.length), (17, .int .i64 i)]) (fun j h => by omega) (by simp only [go_sem, push_cast, and_pos]) ?_
  intro i B0 hI hi hB
  refine vq_conv pok (E := ((Env.base _).add 68 W68 W68_ok)) (PL := []) (by kernel_rfl) ?_
  rcases Nat.lt_or_ge i xs.length with hlt | hge
  · have e1 : xs[i]? = some xs[i] := List.getElem?_eq_getElem hlt
    have e2 : ys[i]? = some (ys[i]'(by omega)) := List.getElem?_eq_getElem _
    have hx := sm_mem hpre (List.getElem_mem hlt)
    simp (maxSteps := 2000000) (disch := first | assumption | (refine asm_intro ?_; assumption) | exact Nat.le_add_right _ _ | exact Nat.le_refl _ | omega | (simp (disch := first | exact Nat.le_add_right _ _ | omega) only [Le_upd hb, Le_rfl, free_T hb]; done) | fail) only [go_sem, push_cast, and_pos, Le_upd hb, free_T hb, e1, e2, hx]
    exact cmp_step hl' hI hlt (by omega) rfl fun h => h
  · simp (maxSteps := 2000000) (disch := first | assumption | (refine asm_intro ?_; assumption) | exact Nat.le_add_right _ _ | exact Nat.le_refl _ | omega | (simp (disch := first | exact Nat.le_add_right _ _ | omega) only [Le_upd hb, Le_rfl, free_T hb]; done) | fail) only [go_sem, push_cast, and_pos, Le_upd hb, free_T hb]
    refine vq_conv pok (E := ((Env.base _).add 68 W68 W68_ok)) (PL := []) (by kernel_rfl) ?_
    simp (maxSteps := 2000000) (disch := first | assumption | (refine asm_intro ?_; assumption) | exact Nat.le_add_right _ _ | exact Nat.le_refl _ | omega | (simp (disch := first | exact Nat.le_add_right _ _ | omega) only [Le_upd hb, Le_rfl, free_T hb]; done) | fail) only [go_sem, push_cast, and_pos, Le_upd hb, free_T hb]
    exact cmp_end hl' hI hge

def W62 : Trans := fun args H Bd K => ∃ (xs : List GEquation) (ys : List GEquation), args = [lst (xs), lst (ys)] ∧ ((sm xs) ∧ K (.bool (decide (xs = ys))) H Bd)
@[go_sem ↓] theorem W62_eq (xs : List GEquation) (ys : List GEquation) (H : AH) (Bd : Nat) (K : Value → AH → Nat → Prop) : W62 [lst (xs), lst (ys)] H Bd K = ((sm xs) ∧ K (.bool (decide (xs = ys))) H Bd) := by
  refine propext ⟨fun h => ?_, fun h => ⟨_, _, rfl, h⟩⟩
  obtain ⟨xs', ys', e, h⟩ := h
  skip
  skip
  simp only [List.cons.injEq, Value.agg.injEq, toArr_inj, Value.int.injEq, Value.bool.injEq, Value.string.injEq, Value.slice.injEq, Value.pointer.injEq, Option.some.injEq, Addr.mk.injEq, lst_inj, true_and, and_true] at e
  obtain ⟨rfl, rfl⟩ := e
  exact h
theorem W62_ok : ∀ args H Bd K, W62 args H Bd K → SCalls Try.prog 62 args H Bd K := by
  rintro args H Bd K ⟨xs, ys, rfl, hpre, hK⟩
  refine fn_pure pok ((Env.base _).add 67 W67 W67_ok) [] _ hK Try.func62 rfl (rs := [.tmp 4]) rfl Try.ntmps62 (by simp) Try.call62 (by kernel_rfl) (fun ha hb => .bool _) (fun hb ha => ?_)
  simp (maxSteps := 2000000) (disch := first | assumption | (refine asm_intro ?_; assumption) | exact Nat.le_add_right _ _ | exact Nat.le_refl _ | omega | (simp (disch := first | exact Nat.le_add_right _ _ | omega) only [Le_upd hb, Le_rfl, free_T hb]; done) | fail) only [go_sem, push_cast, and_pos, Le_upd hb, free_T hb]
  all_goals first | done | trivial | ((try simp only [Cnp, Imp]); grind)

def W49 : Trans := fun args H Bd K => ∃ (x : GTheory) (y : GTheory), args = [.agg (enc (x)).toArray, .agg (enc (y)).toArray] ∧ ((sm x) ∧ K (.bool (decide (x = y))) H Bd)
@[go_sem ↓] theorem W49_eq (x_order : List Int) (x_equations : List GEquation) (x_rules : List GEquation) (y_order : List Int) (y_equations : List GEquation) (y_rules : List GEquation) (H : AH) (Bd : Nat) (K : Value → AH → Nat → Prop) : W49 [.agg #[lst (x_order), lst (x_equations), lst (x_rules)], .agg #[lst (y_order), lst (y_equations), lst (y_rules)]] H Bd K = ((sm (GTheory.mk x_order x_equations x_rules)) ∧ K (.bool (decide ((GTheory.mk x_order x_equations x_rules) = (GTheory.mk y_order y_equations y_rules)))) H Bd) := by
  refine propext ⟨fun h => ?_, fun h => ⟨_, _, rfl, h⟩⟩
  obtain ⟨x', y', e, h⟩ := h
  obtain ⟨xorder', xequations', xrules'⟩ := x'
  obtain ⟨yorder', yequations', yrules'⟩ := y'
  simp only [enc_GTheory, List.cons.injEq, Value.agg.injEq, toArr_inj, Value.int.injEq, Value.bool.injEq, Value.string.injEq, Value.slice.injEq, Value.pointer.injEq, Option.some.injEq, Addr.mk.injEq, lst_inj, true_and, and_true] at e
  obtain ⟨⟨rfl, rfl, rfl⟩, ⟨rfl, rfl, rfl⟩⟩ := e
  exact h
theorem W49_ok : ∀ args H Bd K, W49 args H Bd K → SCalls Try.prog 49 args H Bd K := by
  rintro args H Bd K ⟨x, y, rfl, hpre, hK⟩
  refine fn_pure pok (((Env.base _).add 54 W54 W54_ok).add 62 W62 W62_ok) [(1, [], [], (.k 6 (.grp true 10 15 5 [11, 12, 13, 14, 15] 16 none (.k 5 .nil) (.k 1 (.grp true 17 22 5 [18, 19, 20, 21, 22] 23 none (.k 5 .nil) (.k 1 .nil))))))] _ hK Try.func49 rfl (rs := [.tmp 4]) rfl Try.ntmps49 (by simp) Try.call49 (by kernel_rfl) (fun ha hb => .bool _) (fun hb ha => ?_)
  simp only [sm_GTheory] at hpre
  simp (maxSteps := 2000000) (disch := first | assumption | (refine asm_intro ?_; assumption) | exact Nat.le_add_right _ _ | exact Nat.le_refl _ | omega | (simp (disch := first | exact Nat.le_add_right _ _ | omega) only [Le_upd hb, Le_rfl, free_T hb]; done) | fail) only [go_sem, push_cast, and_pos, Le_upd hb, free_T hb, hpre]
  all_goals (cases x; cases y)
  all_goals first | done | trivial | ((try simp only [Cnp, Imp]); grind)

def W50 : Trans := fun args H Bd K => ∃ (xs : List UInt8) (ys : List UInt8), args = [lst (xs), lst (ys)] ∧ (K (.bool (decide (xs = ys))) H Bd)
@[go_sem ↓] theorem W50_eq (xs : List UInt8) (ys : List UInt8) (H : AH) (Bd : Nat) (K : Value → AH → Nat → Prop) : W50 [lst (xs), lst (ys)] H Bd K = (K (.bool (decide (xs = ys))) H Bd) := by
  refine propext ⟨fun h => ?_, fun h => ⟨_, _, rfl, h⟩⟩
  obtain ⟨xs', ys', e, h⟩ := h
  skip
  skip
  simp only [List.cons.injEq, Value.agg.injEq, toArr_inj, Value.int.injEq, Value.bool.injEq, Value.string.injEq, Value.slice.injEq, Value.pointer.injEq, Option.some.injEq, Addr.mk.injEq, lst_inj, true_and, and_true] at e
  obtain ⟨rfl, rfl⟩ := e
  exact h
theorem W50_ok : ∀ args H Bd K, W50 args H Bd K → SCalls Try.prog 50 args H Bd K := by
  rintro args H Bd K ⟨xs, ys, rfl, hK⟩
  refine fn_pure pok (Env.base _) [] _ hK Try.func50 rfl (rs := [.tmp 4]) rfl Try.ntmps50 (by simp) Try.call50 (by kernel_rfl) (fun ha hb => .bool _) (fun hb ha => ?_)
  simp (maxSteps := 2000000) (disch := first | assumption | (refine asm_intro ?_; assumption) | exact Nat.le_add_right _ _ | exact Nat.le_refl _ | omega | (simp (disch := first | exact Nat.le_add_right _ _ | omega) only [Le_upd hb, Le_rfl, free_T hb]; done) | fail) only [go_sem, push_cast, and_pos, Le_upd hb, free_T hb]
  all_goals first | done | trivial | ((try simp only [Cnp, Imp]); grind)

def W31 : Trans := fun args H Bd K => ∃ (x : GRecord) (y : GRecord), args = [.agg (enc (x)).toArray, .agg (enc (y)).toArray] ∧ ((sm x) ∧ K (.bool (decide (x = y))) H Bd)
@[go_sem ↓] theorem W31_eq (x_term : List Int) (x_value : Int) (y_term : List Int) (y_value : Int) (H : AH) (Bd : Nat) (K : Value → AH → Nat → Prop) : W31 [.agg #[lst (x_term), .int .i64 (x_value)], .agg #[lst (y_term), .int .i64 (y_value)]] H Bd K = ((sm (GRecord.mk x_term x_value)) ∧ K (.bool (decide ((GRecord.mk x_term x_value) = (GRecord.mk y_term y_value)))) H Bd) := by
  refine propext ⟨fun h => ?_, fun h => ⟨_, _, rfl, h⟩⟩
  obtain ⟨x', y', e, h⟩ := h
  obtain ⟨xterm', xvalue'⟩ := x'
  obtain ⟨yterm', yvalue'⟩ := y'
  simp only [enc_GRecord, List.cons.injEq, Value.agg.injEq, toArr_inj, Value.int.injEq, Value.bool.injEq, Value.string.injEq, Value.slice.injEq, Value.pointer.injEq, Option.some.injEq, Addr.mk.injEq, lst_inj, true_and, and_true] at e
  obtain ⟨⟨rfl, rfl⟩, ⟨rfl, rfl⟩⟩ := e
  exact h
theorem W31_ok : ∀ args H Bd K, W31 args H Bd K → SCalls Try.prog 31 args H Bd K := by
  rintro args H Bd K ⟨x, y, rfl, hpre, hK⟩
  refine fn_pure pok ((Env.base _).add 54 W54 W54_ok) [(1, [], [], (.k 6 (.grp true 10 15 5 [11, 12, 13, 14, 15] 16 none (.k 5 .nil) (.k 1 .nil))))] _ hK Try.func31 rfl (rs := [.tmp 4]) rfl Try.ntmps31 (by simp) Try.call31 (by kernel_rfl) (fun ha hb => .bool _) (fun hb ha => ?_)
  simp only [sm_GRecord] at hpre
  simp (maxSteps := 2000000) (disch := first | assumption | (refine asm_intro ?_; assumption) | exact Nat.le_add_right _ _ | exact Nat.le_refl _ | omega | (simp (disch := first | exact Nat.le_add_right _ _ | omega) only [Le_upd hb, Le_rfl, free_T hb]; done) | fail) only [go_sem, push_cast, and_pos, Le_upd hb, free_T hb, hpre]
  all_goals (cases x; cases y)
  all_goals first | done | trivial | ((try simp only [Cnp, Imp]); grind)

def W30 : Trans := fun args H Bd K => ∃ (xs : List GRecord) (ys : List GRecord), args = [lst (xs), lst (ys), .func (.func 31) #[] #[]] ∧ ((sm xs) ∧ K (.bool (decide (xs = ys))) H Bd)
@[go_sem ↓] theorem W30_eq (xs : List GRecord) (ys : List GRecord) (H : AH) (Bd : Nat) (K : Value → AH → Nat → Prop) : W30 [lst (xs), lst (ys), .func (.func 31) #[] #[]] H Bd K = ((sm xs) ∧ K (.bool (decide (xs = ys))) H Bd) := by
  refine propext ⟨fun h => ?_, fun h => ⟨_, _, rfl, h⟩⟩
  obtain ⟨xs', ys', e, h⟩ := h
  skip
  skip
  simp only [List.cons.injEq, Value.agg.injEq, toArr_inj, Value.int.injEq, Value.bool.injEq, Value.string.injEq, Value.slice.injEq, Value.pointer.injEq, Option.some.injEq, Addr.mk.injEq, lst_inj, true_and, and_true] at e
  obtain ⟨rfl, rfl⟩ := e
  exact h
set_option maxHeartbeats 2000000 in
theorem W30_ok : ∀ args H Bd K, W30 args H Bd K → SCalls Try.prog 30 args H Bd K := by
  rintro args H Bd K ⟨xs, ys, rfl, hpre, hK⟩
  refine fn_pure pok ((Env.base _).add 31 W31 W31_ok) [] _ hK Try.func30 rfl (rs := [.tmp 6]) rfl Try.ntmps30 (by simp) Try.call30 (by kernel_rfl) (fun ha hb => .bool _) (fun hb ha => ?_)
  have hlen := sm_len hpre
  simp (maxSteps := 2000000) (disch := first | assumption | (refine asm_intro ?_; assumption) | exact Nat.le_add_right _ _ | exact Nat.le_refl _ | omega | (simp (disch := first | exact Nat.le_add_right _ _ | omega) only [Le_upd hb, Le_rfl, free_T hb]; done) | fail) only [go_sem, push_cast, and_pos, Le_upd hb, free_T hb]
  refine Cnp.of (fun hl => ?_) (fun hl => cmp_len (by omega))
  have hl' : xs.length = ys.length := by omega
  refine tr_for (fun i => ∀ j, j < i → xs[j]? = ys[j]?) xs.length (fun i => [(0, lst xs), (1, lst ys), (2, .func (.func 31) #[] #[]), (15, lst xs), (16, .int .i64 xs.length), (17, .int .i64 i)]) (fun j h => by omega) (by simp only [go_sem, push_cast, and_pos]) ?_
  intro i B0 hI hi hB
  refine vq_conv pok (E := ((Env.base _).add 31 W31 W31_ok)) (PL := []) (by kernel_rfl) ?_
  rcases Nat.lt_or_ge i xs.length with hlt | hge
  · have e1 : xs[i]? = some xs[i] := List.getElem?_eq_getElem hlt
    have e2 : ys[i]? = some (ys[i]'(by omega)) := List.getElem?_eq_getElem _
    have hx := sm_mem hpre (List.getElem_mem hlt)
    simp (maxSteps := 2000000) (disch := first | assumption | (refine asm_intro ?_; assumption) | exact Nat.le_add_right _ _ | exact Nat.le_refl _ | omega | (simp (disch := first | exact Nat.le_add_right _ _ | omega) only [Le_upd hb, Le_rfl, free_T hb]; done) | fail) only [go_sem, push_cast, and_pos, Le_upd hb, free_T hb, e1, e2, hx]
    exact cmp_step hl' hI hlt (by omega) rfl fun h => h
  · simp (maxSteps := 2000000) (disch := first | assumption | (refine asm_intro ?_; assumption) | exact Nat.le_add_right _ _ | exact Nat.le_refl _ | omega | (simp (disch := first | exact Nat.le_add_right _ _ | omega) only [Le_upd hb, Le_rfl, free_T hb]; done) | fail) only [go_sem, push_cast, and_pos, Le_upd hb, free_T hb]
    refine vq_conv pok (E := ((Env.base _).add 31 W31 W31_ok)) (PL := []) (by kernel_rfl) ?_
    simp (maxSteps := 2000000) (disch := first | assumption | (refine asm_intro ?_; assumption) | exact Nat.le_add_right _ _ | exact Nat.le_refl _ | omega | (simp (disch := first | exact Nat.le_add_right _ _ | omega) only [Le_upd hb, Le_rfl, free_T hb]; done) | fail) only [go_sem, push_cast, and_pos, Le_upd hb, free_T hb]
    exact cmp_end hl' hI hge

def W13 : Trans := fun args H Bd K => ∃ (xs : List GRecord) (ys : List GRecord), args = [lst (xs), lst (ys)] ∧ ((sm xs) ∧ K (.bool (decide (xs = ys))) H Bd)
@[go_sem ↓] theorem W13_eq (xs : List GRecord) (ys : List GRecord) (H : AH) (Bd : Nat) (K : Value → AH → Nat → Prop) : W13 [lst (xs), lst (ys)] H Bd K = ((sm xs) ∧ K (.bool (decide (xs = ys))) H Bd) := by
  refine propext ⟨fun h => ?_, fun h => ⟨_, _, rfl, h⟩⟩
  obtain ⟨xs', ys', e, h⟩ := h
  skip
  skip
  simp only [List.cons.injEq, Value.agg.injEq, toArr_inj, Value.int.injEq, Value.bool.injEq, Value.string.injEq, Value.slice.injEq, Value.pointer.injEq, Option.some.injEq, Addr.mk.injEq, lst_inj, true_and, and_true] at e
  obtain ⟨rfl, rfl⟩ := e
  exact h
theorem W13_ok : ∀ args H Bd K, W13 args H Bd K → SCalls Try.prog 13 args H Bd K := by
  rintro args H Bd K ⟨xs, ys, rfl, hpre, hK⟩
  refine fn_pure pok ((Env.base _).add 30 W30 W30_ok) [] _ hK Try.func13 rfl (rs := [.tmp 4]) rfl Try.ntmps13 (by simp) Try.call13 (by kernel_rfl) (fun ha hb => .bool _) (fun hb ha => ?_)
  simp (maxSteps := 2000000) (disch := first | assumption | (refine asm_intro ?_; assumption) | exact Nat.le_add_right _ _ | exact Nat.le_refl _ | omega | (simp (disch := first | exact Nat.le_add_right _ _ | omega) only [Le_upd hb, Le_rfl, free_T hb]; done) | fail) only [go_sem, push_cast, and_pos, Le_upd hb, free_T hb]
  all_goals first | done | trivial | ((try simp only [Cnp, Imp]); grind)

def W23 : Trans := fun args H Bd K => ∃ (x : GBook) (y : GBook), args = [.agg (enc (x)).toArray, .agg (enc (y)).toArray] ∧ ((sm x) ∧ K (.bool (decide (x = y))) H Bd)
@[go_sem ↓] theorem W23_eq (x_symbols_symbols : List GSymbol) (x_version : Int) (x_theory_order : List Int) (x_theory_equations : List GEquation) (x_theory_rules : List GEquation) (x_moving : Bool) (x_next_order : List Int) (x_next_equations : List GEquation) (x_next_rules : List GEquation) (x_cursor : List UInt8) (x_records : List GRecord) (y_symbols_symbols : List GSymbol) (y_version : Int) (y_theory_order : List Int) (y_theory_equations : List GEquation) (y_theory_rules : List GEquation) (y_moving : Bool) (y_next_order : List Int) (y_next_equations : List GEquation) (y_next_rules : List GEquation) (y_cursor : List UInt8) (y_records : List GRecord) (H : AH) (Bd : Nat) (K : Value → AH → Nat → Prop) : W23 [.agg #[lst (x_symbols_symbols), .int .i64 (x_version), lst (x_theory_order), lst (x_theory_equations), lst (x_theory_rules), .bool (x_moving), lst (x_next_order), lst (x_next_equations), lst (x_next_rules), lst (x_cursor), lst (x_records)], .agg #[lst (y_symbols_symbols), .int .i64 (y_version), lst (y_theory_order), lst (y_theory_equations), lst (y_theory_rules), .bool (y_moving), lst (y_next_order), lst (y_next_equations), lst (y_next_rules), lst (y_cursor), lst (y_records)]] H Bd K = ((sm (GBook.mk (GSignature.mk x_symbols_symbols) x_version (GTheory.mk x_theory_order x_theory_equations x_theory_rules) x_moving (GTheory.mk x_next_order x_next_equations x_next_rules) x_cursor x_records)) ∧ K (.bool (decide ((GBook.mk (GSignature.mk x_symbols_symbols) x_version (GTheory.mk x_theory_order x_theory_equations x_theory_rules) x_moving (GTheory.mk x_next_order x_next_equations x_next_rules) x_cursor x_records) = (GBook.mk (GSignature.mk y_symbols_symbols) y_version (GTheory.mk y_theory_order y_theory_equations y_theory_rules) y_moving (GTheory.mk y_next_order y_next_equations y_next_rules) y_cursor y_records)))) H Bd) := by
  refine propext ⟨fun h => ?_, fun h => ⟨_, _, rfl, h⟩⟩
  obtain ⟨x', y', e, h⟩ := h
  obtain ⟨⟨xsymbolssymbols'⟩, xversion', ⟨xtheoryorder', xtheoryequations', xtheoryrules'⟩, xmoving', ⟨xnext_order', xnext_equations', xnext_rules'⟩, xcursor', xrecords'⟩ := x'
  obtain ⟨⟨ysymbolssymbols'⟩, yversion', ⟨ytheoryorder', ytheoryequations', ytheoryrules'⟩, ymoving', ⟨ynext_order', ynext_equations', ynext_rules'⟩, ycursor', yrecords'⟩ := y'
  simp only [enc_GBook, enc_GSignature, enc_GTheory, List.cons.injEq, Value.agg.injEq, toArr_inj, Value.int.injEq, Value.bool.injEq, Value.string.injEq, Value.slice.injEq, Value.pointer.injEq, Option.some.injEq, Addr.mk.injEq, lst_inj, true_and, and_true] at e
  obtain ⟨⟨rfl, rfl, rfl, rfl, rfl, rfl, rfl, rfl, rfl, rfl, rfl⟩, ⟨rfl, rfl, rfl, rfl, rfl, rfl, rfl, rfl, rfl, rfl, rfl⟩⟩ := e
  exact h
set_option maxHeartbeats 2000000 in
theorem W23_ok : ∀ args H Bd K, W23 args H Bd K → SCalls Try.prog 23 args H Bd K := by
  rintro args H Bd K ⟨x, y, rfl, hpre, hK⟩
  refine fn_pure pok (((((Env.base _).add 48 W48 W48_ok).add 49 W49 W49_ok).add 50 W50 W50_ok).add 13 W13 W13_ok) [(1, [], [], (.k 6 (.grp true 10 15 5 [11, 12, 13, 14, 15] 16 none (.k 5 .nil) (.k 1 (.grp true 17 22 5 [18, 19, 20, 21, 22] 23 none (.k 5 .nil) (.k 1 (.grp true 24 29 5 [25, 26, 27, 28, 29] 30 none (.k 5 .nil) (.k 1 (.grp true 31 36 5 [32, 33, 34, 35, 36] 37 none (.k 5 .nil) (.k 1 (.grp true 38 43 5 [39, 40, 41, 42, 43] 44 none (.k 5 .nil) (.k 1 (.grp true 45 50 5 [46, 47, 48, 49, 50] 51 none (.k 5 .nil) (.k 1 .nil))))))))))))))] _ hK Try.func23 rfl (rs := [.tmp 4]) rfl Try.ntmps23 (by simp) Try.call23 (by kernel_rfl) (fun ha hb => .bool _) (fun hb ha => ?_)
  simp only [sm_GBook] at hpre
  simp (maxSteps := 2000000) (disch := first | assumption | (refine asm_intro ?_; assumption) | exact Nat.le_add_right _ _ | exact Nat.le_refl _ | omega | (simp (disch := first | exact Nat.le_add_right _ _ | omega) only [Le_upd hb, Le_rfl, free_T hb]; done) | fail) only [go_sem, push_cast, and_pos, Le_upd hb, free_T hb, hpre]
  all_goals (cases x; cases y)
  all_goals first | done | trivial | ((try simp only [Cnp, Imp]); grind)

def W69 : Trans := fun args H Bd K => ∃ (x : GSymbol) (y : GSymbol), args = [.agg (enc (x)).toArray, .agg (enc (y)).toArray] ∧ ((sm x) ∧ K (.bool (decide (x = y))) H Bd)
@[go_sem ↓] theorem W69_eq (x_name : ByteArray) (x_arity : Int) (y_name : ByteArray) (y_arity : Int) (H : AH) (Bd : Nat) (K : Value → AH → Nat → Prop) : W69 [.agg #[.string (x_name), .int .i64 (x_arity)], .agg #[.string (y_name), .int .i64 (y_arity)]] H Bd K = ((sm (GSymbol.mk x_name x_arity)) ∧ K (.bool (decide ((GSymbol.mk x_name x_arity) = (GSymbol.mk y_name y_arity)))) H Bd) := by
  refine propext ⟨fun h => ?_, fun h => ⟨_, _, rfl, h⟩⟩
  obtain ⟨x', y', e, h⟩ := h
  obtain ⟨xname', xarity'⟩ := x'
  obtain ⟨yname', yarity'⟩ := y'
  simp only [enc_GSymbol, List.cons.injEq, Value.agg.injEq, toArr_inj, Value.int.injEq, Value.bool.injEq, Value.string.injEq, Value.slice.injEq, Value.pointer.injEq, Option.some.injEq, Addr.mk.injEq, lst_inj, true_and, and_true] at e
  obtain ⟨⟨rfl, rfl⟩, ⟨rfl, rfl⟩⟩ := e
  exact h
theorem W69_ok : ∀ args H Bd K, W69 args H Bd K → SCalls Try.prog 69 args H Bd K := by
  rintro args H Bd K ⟨x, y, rfl, hpre, hK⟩
  refine fn_pure pok (Env.base _) [] _ hK Try.func69 rfl (rs := [.tmp 4]) rfl Try.ntmps69 (by simp) Try.call69 (by kernel_rfl) (fun ha hb => .bool _) (fun hb ha => ?_)
  simp only [sm_GSymbol] at hpre
  simp (maxSteps := 2000000) (disch := first | assumption | (refine asm_intro ?_; assumption) | exact Nat.le_add_right _ _ | exact Nat.le_refl _ | omega | (simp (disch := first | exact Nat.le_add_right _ _ | omega) only [Le_upd hb, Le_rfl, free_T hb]; done) | fail) only [go_sem, push_cast, and_pos, Le_upd hb, free_T hb, hpre]
  cases x; cases y
  simp only [Cnp, GSymbol.mk.injEq]
  constructor <;> intros <;> simp_all

def W63 : Trans := fun args H Bd K => ∃ (xs : List GSymbol) (ys : List GSymbol), args = [lst (xs), lst (ys)] ∧ ((sm xs) ∧ K (.bool (decide (xs = ys))) H Bd)
@[go_sem ↓] theorem W63_eq (xs : List GSymbol) (ys : List GSymbol) (H : AH) (Bd : Nat) (K : Value → AH → Nat → Prop) : W63 [lst (xs), lst (ys)] H Bd K = ((sm xs) ∧ K (.bool (decide (xs = ys))) H Bd) := by
  refine propext ⟨fun h => ?_, fun h => ⟨_, _, rfl, h⟩⟩
  obtain ⟨xs', ys', e, h⟩ := h
  skip
  skip
  simp only [List.cons.injEq, Value.agg.injEq, toArr_inj, Value.int.injEq, Value.bool.injEq, Value.string.injEq, Value.slice.injEq, Value.pointer.injEq, Option.some.injEq, Addr.mk.injEq, lst_inj, true_and, and_true] at e
  obtain ⟨rfl, rfl⟩ := e
  exact h
theorem W63_ok : ∀ args H Bd K, W63 args H Bd K → SCalls Try.prog 63 args H Bd K := by
  rintro args H Bd K ⟨xs, ys, rfl, hpre, hK⟩
  refine fn_pure pok ((Env.base _).add 69 W69 W69_ok) [(6, [0,1,2,3,4,5,6,7,8,9], [⟨0, [], []⟩, ⟨1, [], []⟩, ⟨2, [], []⟩, ⟨3, [], []⟩, ⟨4, [], []⟩, ⟨5, [], []⟩, ⟨6, [], []⟩, ⟨7, [], []⟩, ⟨8, [], []⟩, ⟨9, [], []⟩], .nil)] _ hK Try.func63 rfl (rs := [.tmp 4]) rfl Try.ntmps63 (by simp) Try.call63 (by kernel_rfl) (fun ha hb => .bool _) (fun hb ha => ?_)
  have hlen := sm_len hpre
  simp (maxSteps := 2000000) (disch := first | assumption | (refine asm_intro ?_; assumption) | exact Nat.le_add_right _ _ | exact Nat.le_refl _ | omega | (simp (disch := first | exact Nat.le_add_right _ _ | omega) only [Le_upd hb, Le_rfl, free_T hb]; done) | fail) only [go_sem, push_cast, and_pos, Le_upd hb, free_T hb]
  refine Cnp.of (fun hl => ?_) (fun hl => cmp_len (by omega))
  have hl' : xs.length = ys.length := by omega
  refine tr_for (fun i => ∀ j, j < i → xs[j]? = ys[j]?) xs.length (fun i => [(0, lst xs), (1, lst ys), (5, .int .i64 i)]) (fun j h => by omega) (by simp only [go_sem, push_cast, and_pos]) ?_
  intro i B0 hI hi hB
  refine vq_conv pok (E := ((Env.base _).add 69 W69 W69_ok)) (PL := [(6, [0,1,2,3,4,5,6,7,8,9], [⟨0, [], []⟩, ⟨1, [], []⟩, ⟨2, [], []⟩, ⟨3, [], []⟩, ⟨4, [], []⟩, ⟨5, [], []⟩, ⟨6, [], []⟩, ⟨7, [], []⟩, ⟨8, [], []⟩, ⟨9, [], []⟩], .nil)]) (by kernel_rfl) ?_
  rcases Nat.lt_or_ge i xs.length with hlt | hge
  · have e1 : xs[i]? = some xs[i] := List.getElem?_eq_getElem hlt
    have e2 : ys[i]? = some (ys[i]'(by omega)) := List.getElem?_eq_getElem _
    have hx := sm_mem hpre (List.getElem_mem hlt)
    simp (maxSteps := 2000000) (disch := first | assumption | (refine asm_intro ?_; assumption) | exact Nat.le_add_right _ _ | exact Nat.le_refl _ | omega | (simp (disch := first | exact Nat.le_add_right _ _ | omega) only [Le_upd hb, Le_rfl, free_T hb]; done) | fail) only [go_sem, push_cast, and_pos, Le_upd hb, free_T hb, e1, e2, hx]
    exact cmp_step hl' hI hlt (by omega) rfl fun h => h
  · simp (maxSteps := 2000000) (disch := first | assumption | (refine asm_intro ?_; assumption) | exact Nat.le_add_right _ _ | exact Nat.le_refl _ | omega | (simp (disch := first | exact Nat.le_add_right _ _ | omega) only [Le_upd hb, Le_rfl, free_T hb]; done) | fail) only [go_sem, push_cast, and_pos, Le_upd hb, free_T hb]
    refine vq_conv pok (E := ((Env.base _).add 69 W69 W69_ok)) (PL := [(6, [0,1,2,3,4,5,6,7,8,9], [⟨0, [], []⟩, ⟨1, [], []⟩, ⟨2, [], []⟩, ⟨3, [], []⟩, ⟨4, [], []⟩, ⟨5, [], []⟩, ⟨6, [], []⟩, ⟨7, [], []⟩, ⟨8, [], []⟩, ⟨9, [], []⟩], .nil)]) (by kernel_rfl) ?_
    simp (maxSteps := 2000000) (disch := first | assumption | (refine asm_intro ?_; assumption) | exact Nat.le_add_right _ _ | exact Nat.le_refl _ | omega | (simp (disch := first | exact Nat.le_add_right _ _ | omega) only [Le_upd hb, Le_rfl, free_T hb]; done) | fail) only [go_sem, push_cast, and_pos, Le_upd hb, free_T hb]
    exact cmp_end hl' hI hge

def W51 : Trans := fun args H Bd K => ∃ (x : GSignature) (y : GSignature), args = [.agg (enc (x)).toArray, .agg (enc (y)).toArray] ∧ ((sm x) ∧ K (.bool (decide (x = y))) H Bd)
@[go_sem ↓] theorem W51_eq (x_symbols : List GSymbol) (y_symbols : List GSymbol) (H : AH) (Bd : Nat) (K : Value → AH → Nat → Prop) : W51 [.agg #[lst (x_symbols)], .agg #[lst (y_symbols)]] H Bd K = ((sm (GSignature.mk x_symbols)) ∧ K (.bool (decide ((GSignature.mk x_symbols) = (GSignature.mk y_symbols)))) H Bd) := by
  refine propext ⟨fun h => ?_, fun h => ⟨_, _, rfl, h⟩⟩
  obtain ⟨x', y', e, h⟩ := h
  obtain ⟨xsymbols'⟩ := x'
  obtain ⟨ysymbols'⟩ := y'
  simp only [enc_GSignature, List.cons.injEq, Value.agg.injEq, toArr_inj, Value.int.injEq, Value.bool.injEq, Value.string.injEq, Value.slice.injEq, Value.pointer.injEq, Option.some.injEq, Addr.mk.injEq, lst_inj, true_and, and_true] at e
  obtain ⟨rfl, rfl⟩ := e
  exact h
theorem W51_ok : ∀ args H Bd K, W51 args H Bd K → SCalls Try.prog 51 args H Bd K := by
  rintro args H Bd K ⟨x, y, rfl, hpre, hK⟩
  refine fn_pure pok ((Env.base _).add 63 W63 W63_ok) [] _ hK Try.func51 rfl (rs := [.tmp 4]) rfl Try.ntmps51 (by simp) Try.call51 (by kernel_rfl) (fun ha hb => .bool _) (fun hb ha => ?_)
  simp only [sm_GSignature] at hpre
  simp (maxSteps := 2000000) (disch := first | assumption | (refine asm_intro ?_; assumption) | exact Nat.le_add_right _ _ | exact Nat.le_refl _ | omega | (simp (disch := first | exact Nat.le_add_right _ _ | omega) only [Le_upd hb, Le_rfl, free_T hb]; done) | fail) only [go_sem, push_cast, and_pos, Le_upd hb, free_T hb, hpre]
  cases x; cases y
  simp only [Cnp, GSignature.mk.injEq]
  constructor <;> intros <;> simp_all

def W52 : Trans := fun args H Bd K => ∃ (x : GTheory) (y : GTheory), args = [.agg (enc (x)).toArray, .agg (enc (y)).toArray] ∧ ((sm x) ∧ K (.bool (decide (x = y))) H Bd)
@[go_sem ↓] theorem W52_eq (x_order : List Int) (x_equations : List GEquation) (x_rules : List GEquation) (y_order : List Int) (y_equations : List GEquation) (y_rules : List GEquation) (H : AH) (Bd : Nat) (K : Value → AH → Nat → Prop) : W52 [.agg #[lst (x_order), lst (x_equations), lst (x_rules)], .agg #[lst (y_order), lst (y_equations), lst (y_rules)]] H Bd K = ((sm (GTheory.mk x_order x_equations x_rules)) ∧ K (.bool (decide ((GTheory.mk x_order x_equations x_rules) = (GTheory.mk y_order y_equations y_rules)))) H Bd) := by
  refine propext ⟨fun h => ?_, fun h => ⟨_, _, rfl, h⟩⟩
  obtain ⟨x', y', e, h⟩ := h
  obtain ⟨xorder', xequations', xrules'⟩ := x'
  obtain ⟨yorder', yequations', yrules'⟩ := y'
  simp only [enc_GTheory, List.cons.injEq, Value.agg.injEq, toArr_inj, Value.int.injEq, Value.bool.injEq, Value.string.injEq, Value.slice.injEq, Value.pointer.injEq, Option.some.injEq, Addr.mk.injEq, lst_inj, true_and, and_true] at e
  obtain ⟨⟨rfl, rfl, rfl⟩, ⟨rfl, rfl, rfl⟩⟩ := e
  exact h
theorem W52_ok : ∀ args H Bd K, W52 args H Bd K → SCalls Try.prog 52 args H Bd K := by
  rintro args H Bd K ⟨x, y, rfl, hpre, hK⟩
  refine fn_pure pok (((Env.base _).add 38 W38 W38_ok).add 39 W39 W39_ok) [] _ hK Try.func52 rfl (rs := [.tmp 4]) rfl Try.ntmps52 (by simp) Try.call52 (by kernel_rfl) (fun ha hb => .bool _) (fun hb ha => ?_)
  simp only [sm_GTheory] at hpre
  simp (maxSteps := 2000000) (disch := first | assumption | (refine asm_intro ?_; assumption) | exact Nat.le_add_right _ _ | exact Nat.le_refl _ | omega | (simp (disch := first | exact Nat.le_add_right _ _ | omega) only [Le_upd hb, Le_rfl, free_T hb]; done) | fail) only [go_sem, push_cast, and_pos, Le_upd hb, free_T hb, hpre]
  cases x; cases y
  simp only [Cnp, GTheory.mk.injEq]
  constructor <;> intros <;> simp_all

def W53 : Trans := fun args H Bd K => ∃ (xs : List UInt8) (ys : List UInt8), args = [lst (xs), lst (ys)] ∧ ((sm xs) ∧ K (.bool (decide (xs = ys))) H Bd)
@[go_sem ↓] theorem W53_eq (xs : List UInt8) (ys : List UInt8) (H : AH) (Bd : Nat) (K : Value → AH → Nat → Prop) : W53 [lst (xs), lst (ys)] H Bd K = ((sm xs) ∧ K (.bool (decide (xs = ys))) H Bd) := by
  refine propext ⟨fun h => ?_, fun h => ⟨_, _, rfl, h⟩⟩
  obtain ⟨xs', ys', e, h⟩ := h
  skip
  skip
  simp only [List.cons.injEq, Value.agg.injEq, toArr_inj, Value.int.injEq, Value.bool.injEq, Value.string.injEq, Value.slice.injEq, Value.pointer.injEq, Option.some.injEq, Addr.mk.injEq, lst_inj, true_and, and_true] at e
  obtain ⟨rfl, rfl⟩ := e
  exact h
theorem W53_ok : ∀ args H Bd K, W53 args H Bd K → SCalls Try.prog 53 args H Bd K := by
  rintro args H Bd K ⟨xs, ys, rfl, hpre, hK⟩
  refine fn_pure pok (Env.base _) [(6, [0,1,2,3,4,5,6,7,8], [⟨0, [], []⟩, ⟨1, [], []⟩, ⟨2, [], []⟩, ⟨3, [], []⟩, ⟨4, [], []⟩, ⟨5, [], []⟩, ⟨6, [], []⟩, ⟨7, [], []⟩, ⟨8, [], []⟩], .nil)] _ hK Try.func53 rfl (rs := [.tmp 4]) rfl Try.ntmps53 (by simp) Try.call53 (by kernel_rfl) (fun ha hb => .bool _) (fun hb ha => ?_)
  have hlen := sm_len hpre
  simp (maxSteps := 2000000) (disch := first | assumption | (refine asm_intro ?_; assumption) | exact Nat.le_add_right _ _ | exact Nat.le_refl _ | omega | (simp (disch := first | exact Nat.le_add_right _ _ | omega) only [Le_upd hb, Le_rfl, free_T hb]; done) | fail) only [go_sem, push_cast, and_pos, Le_upd hb, free_T hb]
  refine Cnp.of (fun hl => ?_) (fun hl => cmp_len (by omega))
  have hl' : xs.length = ys.length := by omega
  refine tr_for (fun i => ∀ j, j < i → xs[j]? = ys[j]?) xs.length (fun i => [(0, lst xs), (1, lst ys), (5, .int .i64 i)]) (fun j h => by omega) (by simp only [go_sem, push_cast, and_pos]) ?_
  intro i B0 hI hi hB
  refine vq_conv pok (E := (Env.base _)) (PL := [(6, [0,1,2,3,4,5,6,7,8], [⟨0, [], []⟩, ⟨1, [], []⟩, ⟨2, [], []⟩, ⟨3, [], []⟩, ⟨4, [], []⟩, ⟨5, [], []⟩, ⟨6, [], []⟩, ⟨7, [], []⟩, ⟨8, [], []⟩], .nil)]) (by kernel_rfl) ?_
  rcases Nat.lt_or_ge i xs.length with hlt | hge
  · have e1 : xs[i]? = some xs[i] := List.getElem?_eq_getElem hlt
    have e2 : ys[i]? = some (ys[i]'(by omega)) := List.getElem?_eq_getElem _
    have hx := sm_mem hpre (List.getElem_mem hlt)
    simp (maxSteps := 2000000) (disch := first | assumption | (refine asm_intro ?_; assumption) | exact Nat.le_add_right _ _ | exact Nat.le_refl _ | omega | (simp (disch := first | exact Nat.le_add_right _ _ | omega) only [Le_upd hb, Le_rfl, free_T hb]; done) | fail) only [go_sem, push_cast, and_pos, Le_upd hb, free_T hb, e1, e2, hx]
    exact cmp_step hl' hI hlt (by omega) rfl fun h => h
  · simp (maxSteps := 2000000) (disch := first | assumption | (refine asm_intro ?_; assumption) | exact Nat.le_add_right _ _ | exact Nat.le_refl _ | omega | (simp (disch := first | exact Nat.le_add_right _ _ | omega) only [Le_upd hb, Le_rfl, free_T hb]; done) | fail) only [go_sem, push_cast, and_pos, Le_upd hb, free_T hb]
    refine vq_conv pok (E := (Env.base _)) (PL := [(6, [0,1,2,3,4,5,6,7,8], [⟨0, [], []⟩, ⟨1, [], []⟩, ⟨2, [], []⟩, ⟨3, [], []⟩, ⟨4, [], []⟩, ⟨5, [], []⟩, ⟨6, [], []⟩, ⟨7, [], []⟩, ⟨8, [], []⟩], .nil)]) (by kernel_rfl) ?_
    simp (maxSteps := 2000000) (disch := first | assumption | (refine asm_intro ?_; assumption) | exact Nat.le_add_right _ _ | exact Nat.le_refl _ | omega | (simp (disch := first | exact Nat.le_add_right _ _ | omega) only [Le_upd hb, Le_rfl, free_T hb]; done) | fail) only [go_sem, push_cast, and_pos, Le_upd hb, free_T hb]
    exact cmp_end hl' hI hge

def W32 : Trans := fun args H Bd K => ∃ (x : GRecord) (y : GRecord), args = [.agg (enc (x)).toArray, .agg (enc (y)).toArray] ∧ ((sm x) ∧ K (.bool (decide (x = y))) H Bd)
@[go_sem ↓] theorem W32_eq (x_term : List Int) (x_value : Int) (y_term : List Int) (y_value : Int) (H : AH) (Bd : Nat) (K : Value → AH → Nat → Prop) : W32 [.agg #[lst (x_term), .int .i64 (x_value)], .agg #[lst (y_term), .int .i64 (y_value)]] H Bd K = ((sm (GRecord.mk x_term x_value)) ∧ K (.bool (decide ((GRecord.mk x_term x_value) = (GRecord.mk y_term y_value)))) H Bd) := by
  refine propext ⟨fun h => ?_, fun h => ⟨_, _, rfl, h⟩⟩
  obtain ⟨x', y', e, h⟩ := h
  obtain ⟨xterm', xvalue'⟩ := x'
  obtain ⟨yterm', yvalue'⟩ := y'
  simp only [enc_GRecord, List.cons.injEq, Value.agg.injEq, toArr_inj, Value.int.injEq, Value.bool.injEq, Value.string.injEq, Value.slice.injEq, Value.pointer.injEq, Option.some.injEq, Addr.mk.injEq, lst_inj, true_and, and_true] at e
  obtain ⟨⟨rfl, rfl⟩, ⟨rfl, rfl⟩⟩ := e
  exact h
theorem W32_ok : ∀ args H Bd K, W32 args H Bd K → SCalls Try.prog 32 args H Bd K := by
  rintro args H Bd K ⟨x, y, rfl, hpre, hK⟩
  refine fn_pure pok ((Env.base _).add 38 W38 W38_ok) [] _ hK Try.func32 rfl (rs := [.tmp 4]) rfl Try.ntmps32 (by simp) Try.call32 (by kernel_rfl) (fun ha hb => .bool _) (fun hb ha => ?_)
  simp only [sm_GRecord] at hpre
  simp (maxSteps := 2000000) (disch := first | assumption | (refine asm_intro ?_; assumption) | exact Nat.le_add_right _ _ | exact Nat.le_refl _ | omega | (simp (disch := first | exact Nat.le_add_right _ _ | omega) only [Le_upd hb, Le_rfl, free_T hb]; done) | fail) only [go_sem, push_cast, and_pos, Le_upd hb, free_T hb, hpre]
  cases x; cases y
  simp only [Cnp, GRecord.mk.injEq]
  constructor <;> intros <;> simp_all

def W14 : Trans := fun args H Bd K => ∃ (xs : List GRecord) (ys : List GRecord), args = [lst (xs), lst (ys)] ∧ ((sm xs) ∧ K (.bool (decide (xs = ys))) H Bd)
@[go_sem ↓] theorem W14_eq (xs : List GRecord) (ys : List GRecord) (H : AH) (Bd : Nat) (K : Value → AH → Nat → Prop) : W14 [lst (xs), lst (ys)] H Bd K = ((sm xs) ∧ K (.bool (decide (xs = ys))) H Bd) := by
  refine propext ⟨fun h => ?_, fun h => ⟨_, _, rfl, h⟩⟩
  obtain ⟨xs', ys', e, h⟩ := h
  skip
  skip
  simp only [List.cons.injEq, Value.agg.injEq, toArr_inj, Value.int.injEq, Value.bool.injEq, Value.string.injEq, Value.slice.injEq, Value.pointer.injEq, Option.some.injEq, Addr.mk.injEq, lst_inj, true_and, and_true] at e
  obtain ⟨rfl, rfl⟩ := e
  exact h
theorem W14_ok : ∀ args H Bd K, W14 args H Bd K → SCalls Try.prog 14 args H Bd K := by
  rintro args H Bd K ⟨xs, ys, rfl, hpre, hK⟩
  refine fn_pure pok ((Env.base _).add 32 W32 W32_ok) [(6, [0,1,2,3,4,5,6,7,8,9], [⟨0, [], []⟩, ⟨1, [], []⟩, ⟨2, [], []⟩, ⟨3, [], []⟩, ⟨4, [], []⟩, ⟨5, [], []⟩, ⟨6, [], []⟩, ⟨7, [], []⟩, ⟨8, [], []⟩, ⟨9, [], []⟩], .nil)] _ hK Try.func14 rfl (rs := [.tmp 4]) rfl Try.ntmps14 (by simp) Try.call14 (by kernel_rfl) (fun ha hb => .bool _) (fun hb ha => ?_)
  have hlen := sm_len hpre
  simp (maxSteps := 2000000) (disch := first | assumption | (refine asm_intro ?_; assumption) | exact Nat.le_add_right _ _ | exact Nat.le_refl _ | omega | (simp (disch := first | exact Nat.le_add_right _ _ | omega) only [Le_upd hb, Le_rfl, free_T hb]; done) | fail) only [go_sem, push_cast, and_pos, Le_upd hb, free_T hb]
  refine Cnp.of (fun hl => ?_) (fun hl => cmp_len (by omega))
  have hl' : xs.length = ys.length := by omega
  refine tr_for (fun i => ∀ j, j < i → xs[j]? = ys[j]?) xs.length (fun i => [(0, lst xs), (1, lst ys), (5, .int .i64 i)]) (fun j h => by omega) (by simp only [go_sem, push_cast, and_pos]) ?_
  intro i B0 hI hi hB
  refine vq_conv pok (E := ((Env.base _).add 32 W32 W32_ok)) (PL := [(6, [0,1,2,3,4,5,6,7,8,9], [⟨0, [], []⟩, ⟨1, [], []⟩, ⟨2, [], []⟩, ⟨3, [], []⟩, ⟨4, [], []⟩, ⟨5, [], []⟩, ⟨6, [], []⟩, ⟨7, [], []⟩, ⟨8, [], []⟩, ⟨9, [], []⟩], .nil)]) (by kernel_rfl) ?_
  rcases Nat.lt_or_ge i xs.length with hlt | hge
  · have e1 : xs[i]? = some xs[i] := List.getElem?_eq_getElem hlt
    have e2 : ys[i]? = some (ys[i]'(by omega)) := List.getElem?_eq_getElem _
    have hx := sm_mem hpre (List.getElem_mem hlt)
    simp (maxSteps := 2000000) (disch := first | assumption | (refine asm_intro ?_; assumption) | exact Nat.le_add_right _ _ | exact Nat.le_refl _ | omega | (simp (disch := first | exact Nat.le_add_right _ _ | omega) only [Le_upd hb, Le_rfl, free_T hb]; done) | fail) only [go_sem, push_cast, and_pos, Le_upd hb, free_T hb, e1, e2, hx]
    exact cmp_step hl' hI hlt (by omega) rfl fun h => h
  · simp (maxSteps := 2000000) (disch := first | assumption | (refine asm_intro ?_; assumption) | exact Nat.le_add_right _ _ | exact Nat.le_refl _ | omega | (simp (disch := first | exact Nat.le_add_right _ _ | omega) only [Le_upd hb, Le_rfl, free_T hb]; done) | fail) only [go_sem, push_cast, and_pos, Le_upd hb, free_T hb]
    refine vq_conv pok (E := ((Env.base _).add 32 W32 W32_ok)) (PL := [(6, [0,1,2,3,4,5,6,7,8,9], [⟨0, [], []⟩, ⟨1, [], []⟩, ⟨2, [], []⟩, ⟨3, [], []⟩, ⟨4, [], []⟩, ⟨5, [], []⟩, ⟨6, [], []⟩, ⟨7, [], []⟩, ⟨8, [], []⟩, ⟨9, [], []⟩], .nil)]) (by kernel_rfl) ?_
    simp (maxSteps := 2000000) (disch := first | assumption | (refine asm_intro ?_; assumption) | exact Nat.le_add_right _ _ | exact Nat.le_refl _ | omega | (simp (disch := first | exact Nat.le_add_right _ _ | omega) only [Le_upd hb, Le_rfl, free_T hb]; done) | fail) only [go_sem, push_cast, and_pos, Le_upd hb, free_T hb]
    exact cmp_end hl' hI hge

def W24 : Trans := fun args H Bd K => ∃ (x : GBook) (y : GBook), args = [.agg (enc (x)).toArray, .agg (enc (y)).toArray] ∧ ((sm x) ∧ K (.bool (decide (x = y))) H Bd)
@[go_sem ↓] theorem W24_eq (x_symbols_symbols : List GSymbol) (x_version : Int) (x_theory_order : List Int) (x_theory_equations : List GEquation) (x_theory_rules : List GEquation) (x_moving : Bool) (x_next_order : List Int) (x_next_equations : List GEquation) (x_next_rules : List GEquation) (x_cursor : List UInt8) (x_records : List GRecord) (y_symbols_symbols : List GSymbol) (y_version : Int) (y_theory_order : List Int) (y_theory_equations : List GEquation) (y_theory_rules : List GEquation) (y_moving : Bool) (y_next_order : List Int) (y_next_equations : List GEquation) (y_next_rules : List GEquation) (y_cursor : List UInt8) (y_records : List GRecord) (H : AH) (Bd : Nat) (K : Value → AH → Nat → Prop) : W24 [.agg #[lst (x_symbols_symbols), .int .i64 (x_version), lst (x_theory_order), lst (x_theory_equations), lst (x_theory_rules), .bool (x_moving), lst (x_next_order), lst (x_next_equations), lst (x_next_rules), lst (x_cursor), lst (x_records)], .agg #[lst (y_symbols_symbols), .int .i64 (y_version), lst (y_theory_order), lst (y_theory_equations), lst (y_theory_rules), .bool (y_moving), lst (y_next_order), lst (y_next_equations), lst (y_next_rules), lst (y_cursor), lst (y_records)]] H Bd K = ((sm (GBook.mk (GSignature.mk x_symbols_symbols) x_version (GTheory.mk x_theory_order x_theory_equations x_theory_rules) x_moving (GTheory.mk x_next_order x_next_equations x_next_rules) x_cursor x_records)) ∧ K (.bool (decide ((GBook.mk (GSignature.mk x_symbols_symbols) x_version (GTheory.mk x_theory_order x_theory_equations x_theory_rules) x_moving (GTheory.mk x_next_order x_next_equations x_next_rules) x_cursor x_records) = (GBook.mk (GSignature.mk y_symbols_symbols) y_version (GTheory.mk y_theory_order y_theory_equations y_theory_rules) y_moving (GTheory.mk y_next_order y_next_equations y_next_rules) y_cursor y_records)))) H Bd) := by
  refine propext ⟨fun h => ?_, fun h => ⟨_, _, rfl, h⟩⟩
  obtain ⟨x', y', e, h⟩ := h
  obtain ⟨⟨xsymbolssymbols'⟩, xversion', ⟨xtheoryorder', xtheoryequations', xtheoryrules'⟩, xmoving', ⟨xnext_order', xnext_equations', xnext_rules'⟩, xcursor', xrecords'⟩ := x'
  obtain ⟨⟨ysymbolssymbols'⟩, yversion', ⟨ytheoryorder', ytheoryequations', ytheoryrules'⟩, ymoving', ⟨ynext_order', ynext_equations', ynext_rules'⟩, ycursor', yrecords'⟩ := y'
  simp only [enc_GBook, enc_GSignature, enc_GTheory, List.cons.injEq, Value.agg.injEq, toArr_inj, Value.int.injEq, Value.bool.injEq, Value.string.injEq, Value.slice.injEq, Value.pointer.injEq, Option.some.injEq, Addr.mk.injEq, lst_inj, true_and, and_true] at e
  obtain ⟨⟨rfl, rfl, rfl, rfl, rfl, rfl, rfl, rfl, rfl, rfl, rfl⟩, ⟨rfl, rfl, rfl, rfl, rfl, rfl, rfl, rfl, rfl, rfl, rfl⟩⟩ := e
  exact h
set_option maxHeartbeats 2000000 in
theorem W24_ok : ∀ args H Bd K, W24 args H Bd K → SCalls Try.prog 24 args H Bd K := by
  rintro args H Bd K ⟨x, y, rfl, hpre, hK⟩
  refine fn_pure pok (((((Env.base _).add 51 W51 W51_ok).add 52 W52 W52_ok).add 53 W53 W53_ok).add 14 W14 W14_ok) [] _ hK Try.func24 rfl (rs := [.tmp 4]) rfl Try.ntmps24 (by simp) Try.call24 (by kernel_rfl) (fun ha hb => .bool _) (fun hb ha => ?_)
  simp only [sm_GBook] at hpre
  simp (maxSteps := 2000000) (disch := first | assumption | (refine asm_intro ?_; assumption) | exact Nat.le_add_right _ _ | exact Nat.le_refl _ | omega | (simp (disch := first | exact Nat.le_add_right _ _ | omega) only [Le_upd hb, Le_rfl, free_T hb]; done) | fail) only [go_sem, push_cast, and_pos, Le_upd hb, free_T hb, hpre]
  cases x; cases y
  simp only [Cnp, GBook.mk.injEq]
  constructor <;> intros <;> simp_all

def W6 : Trans := fun args H Bd K => ∃ (x : GBook) (y : GBook), args = [.agg (enc (x)).toArray, .agg (enc (y)).toArray] ∧ ((sm x ∧ sm y) ∧ K (.bool (true)) H Bd)
@[go_sem ↓] theorem W6_eq (x_symbols_symbols : List GSymbol) (x_version : Int) (x_theory_order : List Int) (x_theory_equations : List GEquation) (x_theory_rules : List GEquation) (x_moving : Bool) (x_next_order : List Int) (x_next_equations : List GEquation) (x_next_rules : List GEquation) (x_cursor : List UInt8) (x_records : List GRecord) (y_symbols_symbols : List GSymbol) (y_version : Int) (y_theory_order : List Int) (y_theory_equations : List GEquation) (y_theory_rules : List GEquation) (y_moving : Bool) (y_next_order : List Int) (y_next_equations : List GEquation) (y_next_rules : List GEquation) (y_cursor : List UInt8) (y_records : List GRecord) (H : AH) (Bd : Nat) (K : Value → AH → Nat → Prop) : W6 [.agg #[lst (x_symbols_symbols), .int .i64 (x_version), lst (x_theory_order), lst (x_theory_equations), lst (x_theory_rules), .bool (x_moving), lst (x_next_order), lst (x_next_equations), lst (x_next_rules), lst (x_cursor), lst (x_records)], .agg #[lst (y_symbols_symbols), .int .i64 (y_version), lst (y_theory_order), lst (y_theory_equations), lst (y_theory_rules), .bool (y_moving), lst (y_next_order), lst (y_next_equations), lst (y_next_rules), lst (y_cursor), lst (y_records)]] H Bd K = ((sm (GBook.mk (GSignature.mk x_symbols_symbols) x_version (GTheory.mk x_theory_order x_theory_equations x_theory_rules) x_moving (GTheory.mk x_next_order x_next_equations x_next_rules) x_cursor x_records) ∧ sm (GBook.mk (GSignature.mk y_symbols_symbols) y_version (GTheory.mk y_theory_order y_theory_equations y_theory_rules) y_moving (GTheory.mk y_next_order y_next_equations y_next_rules) y_cursor y_records)) ∧ K (.bool (true)) H Bd) := by
  refine propext ⟨fun h => ?_, fun h => ⟨_, _, rfl, h⟩⟩
  obtain ⟨x', y', e, h⟩ := h
  obtain ⟨⟨xsymbolssymbols'⟩, xversion', ⟨xtheoryorder', xtheoryequations', xtheoryrules'⟩, xmoving', ⟨xnext_order', xnext_equations', xnext_rules'⟩, xcursor', xrecords'⟩ := x'
  obtain ⟨⟨ysymbolssymbols'⟩, yversion', ⟨ytheoryorder', ytheoryequations', ytheoryrules'⟩, ymoving', ⟨ynext_order', ynext_equations', ynext_rules'⟩, ycursor', yrecords'⟩ := y'
  simp only [enc_GBook, enc_GSignature, enc_GTheory, List.cons.injEq, Value.agg.injEq, toArr_inj, Value.int.injEq, Value.bool.injEq, Value.string.injEq, Value.slice.injEq, Value.pointer.injEq, Option.some.injEq, Addr.mk.injEq, lst_inj, true_and, and_true] at e
  obtain ⟨⟨rfl, rfl, rfl, rfl, rfl, rfl, rfl, rfl, rfl, rfl, rfl⟩, ⟨rfl, rfl, rfl, rfl, rfl, rfl, rfl, rfl, rfl, rfl, rfl⟩⟩ := e
  exact h
set_option maxHeartbeats 2000000 in
theorem W6_ok : ∀ args H Bd K, W6 args H Bd K → SCalls Try.prog 6 args H Bd K := by
  rintro args H Bd K ⟨x, y, rfl, hpre, hK⟩
  refine fn_pure pok ((((((Env.base _).add 20 W20 W20_ok).add 22 W22 W22_ok).add 21 W21 W21_ok).add 23 W23 W23_ok).add 24 W24 W24_ok) [(8, [0,2,1,3,4,5], [⟨0, [], []⟩, ⟨2, [], []⟩, ⟨1, [], [2]⟩, ⟨3, [], []⟩, ⟨4, [], []⟩, ⟨5, [], []⟩], .nil), (14, [0,1,2,3,4], [⟨0, [], []⟩, ⟨1, [], []⟩, ⟨2, [], [0]⟩, ⟨3, [], []⟩, ⟨4, [], []⟩], .nil), (16, [0,1,2,3,4], [⟨0, [], []⟩, ⟨1, [], []⟩, ⟨2, [], [0]⟩, ⟨3, [], []⟩, ⟨4, [], []⟩], .nil)] _ hK Try.func6 rfl (rs := [.tmp 4]) rfl Try.ntmps6 (by simp) Try.call6 (by kernel_rfl) (fun ha hb => .bool _) (fun hb ha => ?_)
  have hpre2 := hpre
  have z0 := szP_or (tot x) (1048576)
  have y0 := szP_ub (tot x) (left := 1048576) (by omega)
  have z1 := szP_or (tot y) (szP (tot x) (1048576))
  have y1 := szP_ub (tot y) (left := szP (tot x) (1048576)) (by omega)
  simp (maxSteps := 2000000) (disch := first | assumption | (refine asm_intro ?_; assumption) | exact Nat.le_add_right _ _ | exact Nat.le_refl _ | omega | (simp (disch := first | exact Nat.le_add_right _ _ | omega) only [Le_upd hb, Le_rfl, free_T hb]; done) | fail) only [go_sem, push_cast, and_pos, Le_upd hb, free_T hb, hpre]
  all_goals (simp only [Cnp]; (repeat' (first | apply And.intro | intro _)) <;> first | trivial | omega)

end Go.Proofs.Ytkojciapfghibaa
