/- YtliijoclogakdaaGreatDoorA3 -/
import Derived.Test.YtliijoclogakdaaGreatDoorA2
set_option linter.unusedSimpArgs false
set_option linter.unusedVariables false
set_option maxRecDepth 20000
namespace Go.Proofs.YtliijoclogakdaaGreatDoor
open Go Go.SC
theorem G112 (g : Nat) (caps : Array Value) (p : Int → Bool) (xs : List Int) (H : AH) (Bd : Nat) (K : Value → AH → Nat → Prop) (hsm : sm xs) (hg : ∀ x ∈ xs, ∀ B, Bd ≤ B → ∀ K' : Value → AH → Nat → Prop, K' (.bool (p x)) H B → SCalls Tryz.prog g (idS ((.int .i64 (x)) :: caps.toList)) H B K') (hK : K (.int .i64 (fidx p xs)) H Bd) : SCalls Tryz.prog 112 [lst xs, .func (.func g) #[] caps] H Bd K := by
  refine fn_pure pok (Env.base _) [] _ hK Tryz.func112 rfl (rs := [.tmp 4]) rfl Tryz.ntmps112 (by simp) Tryz.call112 (by kernel_rfl) (fun ha hb => .int _ _) (fun hb ha => ?_)
  have hlen := sm_len hsm
  simp (maxSteps := 2000000) (disch := first | assumption | (refine asm_intro ?_; assumption) | exact Nat.le_add_right _ _ | exact Nat.le_refl _ | omega | (simp (disch := first | exact Nat.le_add_right _ _ | omega) only [Le_upd hb, Le_app hb, Le_rfl, free_T hb, free_upd]; done) | fail) only [go_sem, push_cast, and_pos, Le_updF, Le_upd hb, free_T hb]
  refine tr_for (fun i => ∀ j, j < i → ∀ x, xs[j]? = some x → p x = false) (xs.length) (fun i => [(0, lst xs), (1, .func (.func g) #[] caps), (7, .int .i64 xs.length), (8, .int .i64 i)]) (by simp) (by simp only [go_sem, push_cast, and_pos, Le_updF]) ?_
  intro i Bi hIi hii hBi
  refine vq_conv pok (E := (Env.base _)) (PL := []) (by kernel_rfl) ?_
  rcases Nat.lt_or_ge i (xs.length) with hlti | hgei
  · have e1 : xs[i]? = some xs[i] := List.getElem?_eq_getElem hlti
    simp (maxSteps := 2000000) (disch := first | assumption | (refine asm_intro ?_; assumption) | exact Nat.le_add_right _ _ | exact Nat.le_refl _ | omega | (simp (disch := first | exact Nat.le_add_right _ _ | omega) only [Le_upd hb, Le_app hb, Le_rfl, free_T hb, free_upd]; done) | fail) only [go_sem, push_cast, and_pos, Le_updF, Le_upd hb, free_T hb, e1]
    refine hg _ (List.getElem_mem hlti) _ (by omega) _ ?_
    simp (maxSteps := 2000000) (disch := first | assumption | (refine asm_intro ?_; assumption) | exact Nat.le_add_right _ _ | exact Nat.le_refl _ | omega | (simp (disch := first | exact Nat.le_add_right _ _ | omega) only [Le_upd hb, Le_app hb, Le_rfl, free_T hb, free_upd]; done) | fail) only [go_sem, push_cast, and_pos, Le_updF, Le_upd hb, free_T hb, e1]
    exact ⟨fun h => by rw [fidx_hit hlti hIi h], fun h => fun j hj x hx => by
      by_cases e : j = i
      · subst e; rw [e1] at hx; cases hx; simpa using h
      · exact hIi j (by omega) x hx⟩
  · simp (maxSteps := 2000000) (disch := first | assumption | (refine asm_intro ?_; assumption) | exact Nat.le_add_right _ _ | exact Nat.le_refl _ | omega | (simp (disch := first | exact Nat.le_add_right _ _ | omega) only [Le_upd hb, Le_app hb, Le_rfl, free_T hb, free_upd]; done) | fail) only [go_sem, push_cast, and_pos, Le_updF, Le_upd hb, free_T hb]
    refine vq_conv pok (E := (Env.base _)) (PL := []) (by kernel_rfl) ?_
    simp (maxSteps := 2000000) (disch := first | assumption | (refine asm_intro ?_; assumption) | exact Nat.le_add_right _ _ | exact Nat.le_refl _ | omega | (simp (disch := first | exact Nat.le_add_right _ _ | omega) only [Le_upd hb, Le_app hb, Le_rfl, free_T hb, free_upd]; done) | fail) only [go_sem, push_cast, and_pos, Le_updF, Le_upd hb, free_T hb]
    rw [fidx_none fun j hj x hx => hIi j (by omega) x hx]
theorem G81 (g : Nat) (caps : Array Value) (p : Int → Bool) (xs : List Int) (H : AH) (Bd : Nat) (K : Value → AH → Nat → Prop) (hsm : sm xs) (hg : ∀ x ∈ xs, ∀ B, Bd ≤ B → ∀ K' : Value → AH → Nat → Prop, K' (.bool (p x)) H B → SCalls Tryz.prog g (idS ((.int .i64 (x)) :: caps.toList)) H B K') (hK : K (.bool (xs.any p)) H Bd) : SCalls Tryz.prog 81 [lst xs, .func (.func g) #[] caps] H Bd K := by
  refine fn_pure pok (Env.base _) [] _ hK Tryz.func81 rfl (rs := [.tmp 4]) rfl Tryz.ntmps81 (by simp) Tryz.call81 (by kernel_rfl) (fun ha hb => .bool _) (fun hb ha => ?_)
  simp (maxSteps := 2000000) (disch := first | assumption | (refine asm_intro ?_; assumption) | exact Nat.le_add_right _ _ | exact Nat.le_refl _ | omega | (simp (disch := first | exact Nat.le_add_right _ _ | omega) only [Le_upd hb, Le_app hb, Le_rfl, free_T hb, free_upd]; done) | fail) only [go_sem, push_cast, and_pos, Le_updF, Le_upd hb, free_T hb]
  refine G112 _ _ p xs _ _ _ hsm hg ?_
  simp (maxSteps := 2000000) (disch := first | assumption | (refine asm_intro ?_; assumption) | exact Nat.le_add_right _ _ | exact Nat.le_refl _ | omega | (simp (disch := first | exact Nat.le_add_right _ _ | omega) only [Le_upd hb, Le_app hb, Le_rfl, free_T hb, free_upd]; done) | fail) only [go_sem, push_cast, and_pos, Le_updF, Le_upd hb, free_T hb]
  exact fidx_ge p xs
def W83 : Trans := fun args H Bd K => ∃ (s : GSignature) (n : Int), args = [.agg (enc (s)).toArray, .int .i64 (n)] ∧ ((sm s ∧ R64 n) ∧ K (.bool (isSym s n)) H Bd)
@[go_sem ↓] theorem W83_eq (s_symbols : List GSymbol) (n : Int) (H : AH) (Bd : Nat) (K : Value → AH → Nat → Prop) : W83 [.agg #[lst (s_symbols)], .int .i64 (n)] H Bd K = ((sm (GSignature.mk s_symbols) ∧ R64 n) ∧ K (.bool (isSym (GSignature.mk s_symbols) n)) H Bd) := by
  refine propext ⟨fun h => ?_, fun h => ⟨_, _, rfl, h⟩⟩
  obtain ⟨s', n', e, h⟩ := h
  obtain ⟨ssymbols'⟩ := s'
  skip
  simp only [enc_GSignature, List.cons.injEq, Value.agg.injEq, toArr_inj, Value.int.injEq, Value.bool.injEq, Value.string.injEq, Value.slice.injEq, Value.func.injEq, Value.pointer.injEq, Option.some.injEq, Addr.mk.injEq, lst_inj, true_and, and_true] at e
  obtain ⟨rfl, rfl⟩ := e
  exact h
theorem W83_ok : OK 83 W83 := by
  rintro args H Bd K ⟨s, n, rfl, hpre, hK⟩
  refine fn_pure pok ((Env.base _).add 22 _ W22_ok) [] _ hK Tryz.func83 rfl (rs := [.tmp 4]) rfl Tryz.ntmps83 (by simp) Tryz.call83 (by kernel_rfl) (fun ha hb => .bool _) (fun hb ha => ?_)
  obtain ⟨h1, h2⟩ := hpre
  simp only [sm_GSignature] at h1
  have hlen := sm_len h1
  simp (maxSteps := 2000000) (disch := first | assumption | (refine asm_intro ?_; assumption) | exact Nat.le_add_right _ _ | exact Nat.le_refl _ | omega | (simp (disch := first | exact Nat.le_add_right _ _ | omega) only [Le_upd hb, Le_app hb, Le_rfl, free_T hb, free_upd]; done) | fail) only [go_sem, push_cast, and_pos, Le_updF, Le_upd hb, free_T hb]
  unfold isSym
  all_goals first | done | trivial | ((try simp only [Cnp, Imp]); grind)
def V82 : Trans := fun args H Bd K => ∃ (n : Int) (s : GSignature), args = [.int .i64 (n), .agg (enc (s)).toArray] ∧ ((sm s ∧ R64 n) ∧ K (.bool (!isSym s n)) H Bd)
@[go_sem ↓] theorem V82_eq (n : Int) (s_symbols : List GSymbol) (H : AH) (Bd : Nat) (K : Value → AH → Nat → Prop) : V82 [.int .i64 (n), .agg #[lst (s_symbols)]] H Bd K = ((sm (GSignature.mk s_symbols) ∧ R64 n) ∧ K (.bool (!isSym (GSignature.mk s_symbols) n)) H Bd) := by
  refine propext ⟨fun h => ?_, fun h => ⟨_, _, rfl, h⟩⟩
  obtain ⟨n', s', e, h⟩ := h
  skip
  obtain ⟨ssymbols'⟩ := s'
  simp only [enc_GSignature, enc_int, enc_str, enc_list, enc_bool, enc_byte, List.cons.injEq, Value.agg.injEq, toArr_inj, Value.int.injEq, Value.bool.injEq, Value.string.injEq, Value.slice.injEq, Value.func.injEq, Value.pointer.injEq, Option.some.injEq, Addr.mk.injEq, lst_inj, true_and, and_true] at e
  obtain ⟨rfl, rfl⟩ := e
  exact h
def W82 : Trans := fun args H Bd K => ∃ (vn ps : Value), args = [vn, ps] ∧ Yld (cellsAt H 1 ps) fun cs => callW V82 [vn, .agg cs.toArray] H Bd K
@[go_sem ↓] theorem W82_eq (vn ps : Value) (H : AH) (Bd : Nat) (K : Value → AH → Nat → Prop) : W82 [vn, ps] H Bd K = (Yld (cellsAt H 1 ps) fun cs => callW V82 (idS [vn, .agg cs.toArray]) H Bd K) := by
  refine propext ⟨fun h => ?_, fun h => ⟨_, _, rfl, h⟩⟩
  obtain ⟨vn', ps', e, h⟩ := h
  simp only [List.cons.injEq, and_true] at e
  obtain ⟨rfl, rfl⟩ := e
  exact h
theorem W82_ok : OK 82 W82 := by
  rintro args H Bd K ⟨vn, ps, rfl, cs, es, h⟩
  obtain ⟨n, s, e, hpre, hK⟩ := h
  simp only [List.cons.injEq, and_true] at e
  obtain ⟨rfl, Es⟩ := e
  obtain rfl := agg_inj Es
  refine fn_pure pok ((Env.base _).add 83 _ W83_ok) [] _ hK Tryz.func82 rfl (rs := [.tmp 3]) rfl Tryz.ntmps82 (by simp) Tryz.call82 (by kernel_rfl) (fun ha hb => .bool _) (fun hb ha => ?_)
  have Ps := cellsAt_out es (NB.vpok (ha ps (by simp)))
  simp only [enc_GSignature] at Ps
  simp (maxSteps := 2000000) (disch := first | assumption | (refine asm_intro ?_; assumption) | exact Nat.le_add_right _ _ | exact Nat.le_refl _ | omega | (simp (disch := first | exact Nat.le_add_right _ _ | omega) only [Le_upd hb, Le_app hb, Le_rfl, free_T hb, free_upd]; done) | fail) only [go_sem, push_cast, and_pos, Le_updF, Le_upd hb, free_T hb, Ps.nil, Ps.fldL (m := 1) rfl, Ps.ldL (m := 1) rfl, Ps.ld0L (m := 1) rfl, Ps.cellsL (m := 1) rfl, Ps.cellsOL (m := 1) rfl, hpre]
def V81_82 : Trans := fun args H Bd K => ∃ (xs : List Int) (s : GSignature), args = [lst (xs), .agg (enc (s)).toArray] ∧ ((sm xs ∧ ∀ n ∈ xs, sm s ∧ R64 n) ∧ K (.bool (xs.any (fun n : Int => !isSym s n))) H Bd)
@[go_sem ↓] theorem V81_82_eq (xs : List Int) (s_symbols : List GSymbol) (H : AH) (Bd : Nat) (K : Value → AH → Nat → Prop) : V81_82 [lst (xs), .agg #[lst (s_symbols)]] H Bd K = ((sm xs ∧ ∀ n ∈ xs, sm (GSignature.mk s_symbols) ∧ R64 n) ∧ K (.bool (xs.any (fun n : Int => !isSym (GSignature.mk s_symbols) n))) H Bd) := by
  refine propext ⟨fun h => ?_, fun h => ⟨_, _, rfl, h⟩⟩
  obtain ⟨xs', s', e, h⟩ := h
  skip
  obtain ⟨ssymbols'⟩ := s'
  simp only [enc_GSignature, enc_int, enc_str, enc_list, enc_bool, enc_byte, List.cons.injEq, Value.agg.injEq, toArr_inj, Value.int.injEq, Value.bool.injEq, Value.string.injEq, Value.slice.injEq, Value.func.injEq, Value.pointer.injEq, Option.some.injEq, Addr.mk.injEq, lst_inj, true_and, and_true] at e
  obtain ⟨rfl, rfl⟩ := e
  exact h
def W81_82 : Trans := fun args H Bd K => ∃ (vxs ps : Value), args = [vxs, .func (.func 82) #[] #[ps]] ∧ Yld (cellsAt H 1 ps) fun cs => callW V81_82 [vxs, .agg cs.toArray] H Bd K
@[go_sem ↓] theorem W81_82_eq (vxs ps : Value) (H : AH) (Bd : Nat) (K : Value → AH → Nat → Prop) : W81_82 [vxs, .func (.func 82) #[] #[ps]] H Bd K = (Yld (cellsAt H 1 ps) fun cs => callW V81_82 (idS [vxs, .agg cs.toArray]) H Bd K) := by
  refine propext ⟨fun h => ?_, fun h => ⟨_, _, rfl, h⟩⟩
  obtain ⟨vxs', ps', e, h⟩ := h
  simp only [List.cons.injEq, Value.func.injEq, toArr_inj, List.cons.injEq, and_true, true_and] at e
  obtain ⟨rfl, rfl⟩ := e
  exact h
theorem W81_82_ok : OK 81 W81_82 := by
  rintro args H Bd K ⟨vxs, ps, rfl, cs, es, h⟩
  obtain ⟨xs, s, e, hpre, hK⟩ := h
  simp only [List.cons.injEq, and_true] at e
  obtain ⟨rfl, Es⟩ := e
  obtain rfl := agg_inj Es
  refine G81 82 #[ps] (fun n : Int => !isSym s n) xs H Bd K hpre.1 (fun x hx B hB K' hk => ?_) hK
  exact W82_ok _ _ _ _ ⟨_, _, rfl, _, es, x, s, rfl, hpre.2 x hx, hk⟩
def W113 : Trans := fun args H Bd K => ∃ (xs : List Int) (y : Int), args = [lst (xs), .int .i64 (y)] ∧ ((sm xs) ∧ K (.int .i64 (fidx (fun x => decide (y = x)) xs)) H Bd)
@[go_sem ↓] theorem W113_eq (xs : List Int) (y : Int) (H : AH) (Bd : Nat) (K : Value → AH → Nat → Prop) : W113 [lst (xs), .int .i64 (y)] H Bd K = ((sm xs) ∧ K (.int .i64 (fidx (fun x => decide (y = x)) xs)) H Bd) := by
  refine propext ⟨fun h => ?_, fun h => ⟨_, _, rfl, h⟩⟩
  obtain ⟨xs', y', e, h⟩ := h
  skip
  skip
  simp only [List.cons.injEq, Value.agg.injEq, toArr_inj, Value.int.injEq, Value.bool.injEq, Value.string.injEq, Value.slice.injEq, Value.func.injEq, Value.pointer.injEq, Option.some.injEq, Addr.mk.injEq, lst_inj, true_and, and_true] at e
  obtain ⟨rfl, rfl⟩ := e
  exact h
theorem W113_ok : OK 113 W113 := by
  rintro args H Bd K ⟨xs, y, rfl, hpre, hK⟩
  refine fn_pure pok (Env.base _) [] _ hK Tryz.func113 rfl (rs := [.tmp 4]) rfl Tryz.ntmps113 (by simp) Tryz.call113 (by kernel_rfl) (fun ha hb => .int _ _) (fun hb ha => ?_)
  have hlen := sm_len hpre
  simp (maxSteps := 2000000) (disch := first | assumption | (refine asm_intro ?_; assumption) | exact Nat.le_add_right _ _ | exact Nat.le_refl _ | omega | (simp (disch := first | exact Nat.le_add_right _ _ | omega) only [Le_upd hb, Le_app hb, Le_rfl, free_T hb, free_upd]; done) | fail) only [go_sem, push_cast, and_pos, Le_updF, Le_upd hb, free_T hb]
  refine tr_for (fun i => ∀ j, j < i → ∀ x, xs[j]? = some x → decide (y = x) = false) (xs.length) (fun i => [(0, lst xs), (1, .int .i64 y), (7, .int .i64 xs.length), (8, .int .i64 i)]) (by simp) (by simp only [go_sem, push_cast, and_pos, Le_updF]) ?_
  intro i Bi hIi hii hBi
  refine vq_conv pok (E := (Env.base _)) (PL := []) (by kernel_rfl) ?_
  rcases Nat.lt_or_ge i (xs.length) with hlti | hgei
  · have e1 : xs[i]? = some xs[i] := List.getElem?_eq_getElem hlti
    simp (maxSteps := 2000000) (disch := first | assumption | (refine asm_intro ?_; assumption) | exact Nat.le_add_right _ _ | exact Nat.le_refl _ | omega | (simp (disch := first | exact Nat.le_add_right _ _ | omega) only [Le_upd hb, Le_app hb, Le_rfl, free_T hb, free_upd]; done) | fail) only [go_sem, push_cast, and_pos, Le_updF, Le_upd hb, free_T hb, e1]
    exact ⟨fun h => by rw [fidx_hit hlti hIi (by simpa using h)], fun h => fun j hj x hx => by
      by_cases e : j = i
      · subst e; rw [e1] at hx; cases hx; simpa using h
      · simpa using hIi j (by omega) x hx⟩
  · simp (maxSteps := 2000000) (disch := first | assumption | (refine asm_intro ?_; assumption) | exact Nat.le_add_right _ _ | exact Nat.le_refl _ | omega | (simp (disch := first | exact Nat.le_add_right _ _ | omega) only [Le_upd hb, Le_app hb, Le_rfl, free_T hb, free_upd]; done) | fail) only [go_sem, push_cast, and_pos, Le_updF, Le_upd hb, free_T hb]
    refine vq_conv pok (E := (Env.base _)) (PL := []) (by kernel_rfl) ?_
    simp (maxSteps := 2000000) (disch := first | assumption | (refine asm_intro ?_; assumption) | exact Nat.le_add_right _ _ | exact Nat.le_refl _ | omega | (simp (disch := first | exact Nat.le_add_right _ _ | omega) only [Le_upd hb, Le_app hb, Le_rfl, free_T hb, free_upd]; done) | fail) only [go_sem, push_cast, and_pos, Le_updF, Le_upd hb, free_T hb]
    rw [fidx_none fun j hj x hx => hIi j (by omega) x hx]
def W84 : Trans := fun args H Bd K => ∃ (xs : List Int) (y : Int), args = [lst (xs), .int .i64 (y)] ∧ ((sm xs) ∧ K (.bool (xs.any (fun x => decide (y = x)))) H Bd)
@[go_sem ↓] theorem W84_eq (xs : List Int) (y : Int) (H : AH) (Bd : Nat) (K : Value → AH → Nat → Prop) : W84 [lst (xs), .int .i64 (y)] H Bd K = ((sm xs) ∧ K (.bool (xs.any (fun x => decide (y = x)))) H Bd) := by
  refine propext ⟨fun h => ?_, fun h => ⟨_, _, rfl, h⟩⟩
  obtain ⟨xs', y', e, h⟩ := h
  skip
  skip
  simp only [List.cons.injEq, Value.agg.injEq, toArr_inj, Value.int.injEq, Value.bool.injEq, Value.string.injEq, Value.slice.injEq, Value.func.injEq, Value.pointer.injEq, Option.some.injEq, Addr.mk.injEq, lst_inj, true_and, and_true] at e
  obtain ⟨rfl, rfl⟩ := e
  exact h
theorem W84_ok : OK 84 W84 := by
  rintro args H Bd K ⟨xs, y, rfl, hpre, hK⟩
  refine fn_pure pok ((Env.base _).add 113 _ W113_ok) [] _ hK Tryz.func84 rfl (rs := [.tmp 4]) rfl Tryz.ntmps84 (by simp) Tryz.call84 (by kernel_rfl) (fun ha hb => .bool _) (fun hb ha => ?_)
  simp (maxSteps := 2000000) (disch := first | assumption | (refine asm_intro ?_; assumption) | exact Nat.le_add_right _ _ | exact Nat.le_refl _ | omega | (simp (disch := first | exact Nat.le_add_right _ _ | omega) only [Le_upd hb, Le_app hb, Le_rfl, free_T hb, free_upd]; done) | fail) only [go_sem, push_cast, and_pos, Le_updF, Le_upd hb, free_T hb, hpre]
  exact fidx_ge _ xs
def W52 : Trans := fun args H Bd K => ∃ (s : GSignature) (order : List Int), args = [.agg (enc (s)).toArray, lst (order)] ∧ ((sm s ∧ sm order ∧ rg order) ∧ K (.int .i64 (ordF s order)) H Bd)
@[go_sem ↓] theorem W52_eq (s_symbols : List GSymbol) (order : List Int) (H : AH) (Bd : Nat) (K : Value → AH → Nat → Prop) : W52 [.agg #[lst (s_symbols)], lst (order)] H Bd K = ((sm (GSignature.mk s_symbols) ∧ sm order ∧ rg order) ∧ K (.int .i64 (ordF (GSignature.mk s_symbols) order)) H Bd) := by
  refine propext ⟨fun h => ?_, fun h => ⟨_, _, rfl, h⟩⟩
  obtain ⟨s', order', e, h⟩ := h
  obtain ⟨ssymbols'⟩ := s'
  skip
  simp only [enc_GSignature, List.cons.injEq, Value.agg.injEq, toArr_inj, Value.int.injEq, Value.bool.injEq, Value.string.injEq, Value.slice.injEq, Value.func.injEq, Value.pointer.injEq, Option.some.injEq, Addr.mk.injEq, lst_inj, true_and, and_true] at e
  obtain ⟨rfl, rfl⟩ := e
  exact h
set_option maxHeartbeats 2000000 in
theorem W52_ok : OK 52 W52 := by
  rintro args H Bd K ⟨s, order, rfl, hpre, hK⟩
  refine fn_pure pok ((((Env.base _).add 21 _ W21_ok).add 81 _ W81_82_ok).add 84 _ W84_ok) [] _ hK Tryz.func52 rfl (rs := [.tmp 4]) rfl Tryz.ntmps52 (by simp) Tryz.call52 (by kernel_rfl) (fun ha hb => .int _ _) (fun hb ha => ?_)
  obtain ⟨h1, h2, h3⟩ := hpre
  have hss : sm s := h1
  simp only [sm_GSignature] at h1
  have hlen := sm_len h1
  have hlen2 := sm_len h2
  simp (maxSteps := 2000000) (disch := first | assumption | (refine asm_intro ?_; assumption) | exact Nat.le_add_right _ _ | exact Nat.le_refl _ | omega | (simp (disch := first | exact Nat.le_add_right _ _ | omega) only [Le_upd hb, Le_app hb, Le_rfl, free_T hb, free_upd]; done) | fail) only [go_sem, push_cast, and_pos, Le_updF, Le_upd hb, free_T hb, hss, h2]
  refine ⟨fun g1 => ⟨fun g2 => ⟨fun n hn => h3 n hn, fun g3 => ?_, fun g3 => ?_⟩, fun g2 => ?_⟩, fun g1 => ?_⟩
  · unfold ordF ordG; rw [if_neg (by simp [g1]), if_neg (by omega), if_pos g3]
  · have hs : ordF s order = if order.Nodup then 0 else 6 := by unfold ordF ordG; rw [if_neg (by simp [g1]), if_neg (by omega), if_neg g3]
    rw [hs]
    refine tr_for (fun j => ∀ a b x y, b < a → a < j → order[a]? = some x → order[b]? = some y → x ≠ y) (order.length) (fun j => [(1, lst order), (22, lst order), (23, .int .i64 order.length), (24, .int .i64 j)]) (by simp) (by simp only [go_sem, push_cast, and_pos, Le_updF]) ?_
    intro j Bj hIj hij hBj
    refine vq_conv pok (E := ((((Env.base _).add 21 _ W21_ok).add 81 _ W81_82_ok).add 84 _ W84_ok)) (PL := []) (by kernel_rfl) ?_
    rcases Nat.lt_or_ge j (order.length) with hltj | hgej
    · have e1 : order[j]? = some order[j] := List.getElem?_eq_getElem hltj
      have h4 : sm (order.take j) := sm_take h2 j
      simp (maxSteps := 2000000) (disch := first | assumption | (refine asm_intro ?_; assumption) | exact Nat.le_add_right _ _ | exact Nat.le_refl _ | omega | (simp (disch := first | exact Nat.le_add_right _ _ | omega) only [Le_upd hb, Le_app hb, Le_rfl, free_T hb, free_upd]; done) | fail) only [go_sem, push_cast, and_pos, Le_updF, Le_upd hb, free_T hb, e1, h4]
      refine ⟨fun h => ?_, fun h => ?_⟩
      · obtain ⟨x, hx, he⟩ := List.any_eq_true.1 h
        obtain ⟨k, hk, rfl⟩ := List.getElem_of_mem hx
        have hk' : k < j := by simp at hk; omega
        rw [if_neg (nodup_not hk' hltj (by simpa using he))]
      · intro a b x y g4 g5 g6 g7
        by_cases e : a = j
        · subst e
          rw [e1] at g6; cases g6
          intro e
          refine h (List.any_eq_true.2 ⟨y, ?_, by simpa using e⟩)
          exact List.mem_of_getElem? (i := b) (by rw [List.getElem?_take, if_pos g4]; exact g7)
        · exact hIj a b x y g4 (by omega) g6 g7
    · simp (maxSteps := 2000000) (disch := first | assumption | (refine asm_intro ?_; assumption) | exact Nat.le_add_right _ _ | exact Nat.le_refl _ | omega | (simp (disch := first | exact Nat.le_add_right _ _ | omega) only [Le_upd hb, Le_app hb, Le_rfl, free_T hb, free_upd]; done) | fail) only [go_sem, push_cast, and_pos, Le_updF, Le_upd hb, free_T hb]
      refine vq_conv pok (E := ((((Env.base _).add 21 _ W21_ok).add 81 _ W81_82_ok).add 84 _ W84_ok)) (PL := []) (by kernel_rfl) ?_
      simp (maxSteps := 2000000) (disch := first | assumption | (refine asm_intro ?_; assumption) | exact Nat.le_add_right _ _ | exact Nat.le_refl _ | omega | (simp (disch := first | exact Nat.le_add_right _ _ | omega) only [Le_upd hb, Le_app hb, Le_rfl, free_T hb, free_upd]; done) | fail) only [go_sem, push_cast, and_pos, Le_updF, Le_upd hb, free_T hb]
      rw [if_pos (nodup_of fun i j x y h1 h2 h3 => hIj i j x y h1 (by have := (List.getElem?_eq_some_iff.1 h2).1; omega) h2 h3)]
  · unfold ordF ordG; rw [if_neg (by simp [g1]), if_pos (by omega)]
  · unfold ordF; rw [if_pos g1]
def W94 : Trans := fun args H Bd K => ∃ (s : GSignature) (n : Int), args = [.agg (enc (s)).toArray, .int .i64 (n)] ∧ ((sm s ∧ R64 n) ∧ K (.bool (isNode s n)) H Bd)
@[go_sem ↓] theorem W94_eq (s_symbols : List GSymbol) (n : Int) (H : AH) (Bd : Nat) (K : Value → AH → Nat → Prop) : W94 [.agg #[lst (s_symbols)], .int .i64 (n)] H Bd K = ((sm (GSignature.mk s_symbols) ∧ R64 n) ∧ K (.bool (isNode (GSignature.mk s_symbols) n)) H Bd) := by
  refine propext ⟨fun h => ?_, fun h => ⟨_, _, rfl, h⟩⟩
  obtain ⟨s', n', e, h⟩ := h
  obtain ⟨ssymbols'⟩ := s'
  skip
  simp only [enc_GSignature, List.cons.injEq, Value.agg.injEq, toArr_inj, Value.int.injEq, Value.bool.injEq, Value.string.injEq, Value.slice.injEq, Value.func.injEq, Value.pointer.injEq, Option.some.injEq, Addr.mk.injEq, lst_inj, true_and, and_true] at e
  obtain ⟨rfl, rfl⟩ := e
  exact h
theorem W94_ok : OK 94 W94 := by
  rintro args H Bd K ⟨s, n, rfl, hpre, hK⟩
  refine fn_pure pok (((Env.base _).add 83 _ W83_ok).add 22 _ W22_ok) [(1, [], [], (.k 4 (.grp false 8 10 2 [9, 10] 11 none (.k 2 .nil) (.k 1 .nil))))] _ hK Tryz.func94 rfl (rs := [.tmp 4]) rfl Tryz.ntmps94 (by simp) Tryz.call94 (by kernel_rfl) (fun ha hb => .bool _) (fun hb ha => ?_)
  obtain ⟨h1, h2⟩ := hpre
  simp (maxSteps := 2000000) (disch := first | assumption | (refine asm_intro ?_; assumption) | exact Nat.le_add_right _ _ | exact Nat.le_refl _ | omega | (simp (disch := first | exact Nat.le_add_right _ _ | omega) only [Le_upd hb, Le_app hb, Le_rfl, free_T hb, free_upd]; done) | fail) only [go_sem, push_cast, and_pos, Le_updF, Le_upd hb, free_T hb, h1, h2]
  simp [isNode]
def V93 : Trans := fun args H Bd K => ∃ (n : Int) (s : GSignature), args = [.int .i64 (n), .agg (enc (s)).toArray] ∧ ((sm s ∧ R64 n) ∧ K (.bool (!isNode s n)) H Bd)
@[go_sem ↓] theorem V93_eq (n : Int) (s_symbols : List GSymbol) (H : AH) (Bd : Nat) (K : Value → AH → Nat → Prop) : V93 [.int .i64 (n), .agg #[lst (s_symbols)]] H Bd K = ((sm (GSignature.mk s_symbols) ∧ R64 n) ∧ K (.bool (!isNode (GSignature.mk s_symbols) n)) H Bd) := by
  refine propext ⟨fun h => ?_, fun h => ⟨_, _, rfl, h⟩⟩
  obtain ⟨n', s', e, h⟩ := h
  skip
  obtain ⟨ssymbols'⟩ := s'
  simp only [enc_GSignature, enc_int, enc_str, enc_list, enc_bool, enc_byte, List.cons.injEq, Value.agg.injEq, toArr_inj, Value.int.injEq, Value.bool.injEq, Value.string.injEq, Value.slice.injEq, Value.func.injEq, Value.pointer.injEq, Option.some.injEq, Addr.mk.injEq, lst_inj, true_and, and_true] at e
  obtain ⟨rfl, rfl⟩ := e
  exact h
def W93 : Trans := fun args H Bd K => ∃ (vn ps : Value), args = [vn, ps] ∧ Yld (cellsAt H 1 ps) fun cs => callW V93 [vn, .agg cs.toArray] H Bd K
@[go_sem ↓] theorem W93_eq (vn ps : Value) (H : AH) (Bd : Nat) (K : Value → AH → Nat → Prop) : W93 [vn, ps] H Bd K = (Yld (cellsAt H 1 ps) fun cs => callW V93 (idS [vn, .agg cs.toArray]) H Bd K) := by
  refine propext ⟨fun h => ?_, fun h => ⟨_, _, rfl, h⟩⟩
  obtain ⟨vn', ps', e, h⟩ := h
  simp only [List.cons.injEq, and_true] at e
  obtain ⟨rfl, rfl⟩ := e
  exact h
theorem W93_ok : OK 93 W93 := by
  rintro args H Bd K ⟨vn, ps, rfl, cs, es, h⟩
  obtain ⟨n, s, e, hpre, hK⟩ := h
  simp only [List.cons.injEq, and_true] at e
  obtain ⟨rfl, Es⟩ := e
  obtain rfl := agg_inj Es
  refine fn_pure pok ((Env.base _).add 94 _ W94_ok) [] _ hK Tryz.func93 rfl (rs := [.tmp 3]) rfl Tryz.ntmps93 (by simp) Tryz.call93 (by kernel_rfl) (fun ha hb => .bool _) (fun hb ha => ?_)
  have Ps := cellsAt_out es (NB.vpok (ha ps (by simp)))
  simp only [enc_GSignature] at Ps
  simp (maxSteps := 2000000) (disch := first | assumption | (refine asm_intro ?_; assumption) | exact Nat.le_add_right _ _ | exact Nat.le_refl _ | omega | (simp (disch := first | exact Nat.le_add_right _ _ | omega) only [Le_upd hb, Le_app hb, Le_rfl, free_T hb, free_upd]; done) | fail) only [go_sem, push_cast, and_pos, Le_updF, Le_upd hb, free_T hb, Ps.nil, Ps.fldL (m := 1) rfl, Ps.ldL (m := 1) rfl, Ps.ld0L (m := 1) rfl, Ps.cellsL (m := 1) rfl, Ps.cellsOL (m := 1) rfl, hpre]
def V81_93 : Trans := fun args H Bd K => ∃ (xs : List Int) (s : GSignature), args = [lst (xs), .agg (enc (s)).toArray] ∧ ((sm xs ∧ ∀ n ∈ xs, sm s ∧ R64 n) ∧ K (.bool (xs.any (fun n : Int => !isNode s n))) H Bd)
@[go_sem ↓] theorem V81_93_eq (xs : List Int) (s_symbols : List GSymbol) (H : AH) (Bd : Nat) (K : Value → AH → Nat → Prop) : V81_93 [lst (xs), .agg #[lst (s_symbols)]] H Bd K = ((sm xs ∧ ∀ n ∈ xs, sm (GSignature.mk s_symbols) ∧ R64 n) ∧ K (.bool (xs.any (fun n : Int => !isNode (GSignature.mk s_symbols) n))) H Bd) := by
  refine propext ⟨fun h => ?_, fun h => ⟨_, _, rfl, h⟩⟩
  obtain ⟨xs', s', e, h⟩ := h
  skip
  obtain ⟨ssymbols'⟩ := s'
  simp only [enc_GSignature, enc_int, enc_str, enc_list, enc_bool, enc_byte, List.cons.injEq, Value.agg.injEq, toArr_inj, Value.int.injEq, Value.bool.injEq, Value.string.injEq, Value.slice.injEq, Value.func.injEq, Value.pointer.injEq, Option.some.injEq, Addr.mk.injEq, lst_inj, true_and, and_true] at e
  obtain ⟨rfl, rfl⟩ := e
  exact h
def W81_93 : Trans := fun args H Bd K => ∃ (vxs ps : Value), args = [vxs, .func (.func 93) #[] #[ps]] ∧ Yld (cellsAt H 1 ps) fun cs => callW V81_93 [vxs, .agg cs.toArray] H Bd K
@[go_sem ↓] theorem W81_93_eq (vxs ps : Value) (H : AH) (Bd : Nat) (K : Value → AH → Nat → Prop) : W81_93 [vxs, .func (.func 93) #[] #[ps]] H Bd K = (Yld (cellsAt H 1 ps) fun cs => callW V81_93 (idS [vxs, .agg cs.toArray]) H Bd K) := by
  refine propext ⟨fun h => ?_, fun h => ⟨_, _, rfl, h⟩⟩
  obtain ⟨vxs', ps', e, h⟩ := h
  simp only [List.cons.injEq, Value.func.injEq, toArr_inj, List.cons.injEq, and_true, true_and] at e
  obtain ⟨rfl, rfl⟩ := e
  exact h
theorem W81_93_ok : OK 81 W81_93 := by
  rintro args H Bd K ⟨vxs, ps, rfl, cs, es, h⟩
  obtain ⟨xs, s, e, hpre, hK⟩ := h
  simp only [List.cons.injEq, and_true] at e
  obtain ⟨rfl, Es⟩ := e
  obtain rfl := agg_inj Es
  refine G81 93 #[ps] (fun n : Int => !isNode s n) xs H Bd K hpre.1 (fun x hx B hB K' hk => ?_) hK
  exact W93_ok _ _ _ _ ⟨_, _, rfl, _, es, x, s, rfl, hpre.2 x hx, hk⟩
def W119 : Trans := fun args H Bd K => ∃ (s : GSignature) (n : Int), args = [.agg (enc (s)).toArray, .int .i64 (n)] ∧ ((sm s ∧ sigF s = 0 ∧ n < s.symbols.length) ∧ K (.int .i64 ((arN s n : Int))) H Bd)
@[go_sem ↓] theorem W119_eq (s_symbols : List GSymbol) (n : Int) (H : AH) (Bd : Nat) (K : Value → AH → Nat → Prop) : W119 [.agg #[lst (s_symbols)], .int .i64 (n)] H Bd K = ((sm (GSignature.mk s_symbols) ∧ sigF (GSignature.mk s_symbols) = 0 ∧ n < (GSignature.mk s_symbols).symbols.length) ∧ K (.int .i64 ((arN (GSignature.mk s_symbols) n : Int))) H Bd) := by
  refine propext ⟨fun h => ?_, fun h => ⟨_, _, rfl, h⟩⟩
  obtain ⟨s', n', e, h⟩ := h
  obtain ⟨ssymbols'⟩ := s'
  skip
  simp only [enc_GSignature, List.cons.injEq, Value.agg.injEq, toArr_inj, Value.int.injEq, Value.bool.injEq, Value.string.injEq, Value.slice.injEq, Value.func.injEq, Value.pointer.injEq, Option.some.injEq, Addr.mk.injEq, lst_inj, true_and, and_true] at e
  obtain ⟨rfl, rfl⟩ := e
  exact h
theorem W119_ok : OK 119 W119 := by
  rintro args H Bd K ⟨s, n, rfl, hpre, hK⟩
  refine fn_pure pok (Env.base _) [] _ hK Tryz.func119 rfl (rs := [.tmp 4]) rfl Tryz.ntmps119 (by simp) Tryz.call119 (by kernel_rfl) (fun ha hb => .int _ _) (fun hb ha => ?_)
  obtain ⟨h1, h2, h3⟩ := hpre
  have hss : sm s := h1
  simp only [sm_GSignature] at h1
  have hlen := sm_len h1
  have hs := sig_ok h2
  by_cases hn : n < 0
  · have e := arN_neg (s := s) hn
    simp (maxSteps := 2000000) (disch := first | assumption | (refine asm_intro ?_; assumption) | exact Nat.le_add_right _ _ | exact Nat.le_refl _ | omega | (simp (disch := first | exact Nat.le_add_right _ _ | omega) only [Le_upd hb, Le_app hb, Le_rfl, free_T hb, free_upd]; done) | fail) only [go_sem, push_cast, and_pos, Le_updF, Le_upd hb, free_T hb, hn, e]
  · have e4 : n.toNat < s.symbols.length := by omega
    have e2 : s.symbols[n.toNat]? = some s.symbols[n.toNat] := List.getElem?_eq_getElem e4
    have e := arN_sym (s := s) (by omega) e2
    have ha := hs.nm _ (List.getElem_mem e4)
    simp (maxSteps := 2000000) (disch := first | assumption | (refine asm_intro ?_; assumption) | exact Nat.le_add_right _ _ | exact Nat.le_refl _ | omega | (simp (disch := first | exact Nat.le_add_right _ _ | omega) only [Le_upd hb, Le_app hb, Le_rfl, free_T hb, free_upd]; done) | fail) only [go_sem, push_cast, and_pos, Le_updF, Le_upd hb, free_T hb, hn, e, e2]
    omega
def W95 : Trans := fun args H Bd K => ∃ (s : GSignature) (t : List Int) (a : Int), args = [.agg (enc (s)).toArray, lst (t), .int .i64 (a)] ∧ ((sm s ∧ sm t ∧ sigF s = 0 ∧ nodes s t ∧ 0 ≤ a ∧ a ≤ t.length) ∧ K (.int .i64 (if ep s t 1 a.toNat < 0 then (t.length : Int) + 1 else ep s t 1 a.toNat)) H Bd)
@[go_sem ↓] theorem W95_eq (s_symbols : List GSymbol) (t : List Int) (a : Int) (H : AH) (Bd : Nat) (K : Value → AH → Nat → Prop) : W95 [.agg #[lst (s_symbols)], lst (t), .int .i64 (a)] H Bd K = ((sm (GSignature.mk s_symbols) ∧ sm t ∧ sigF (GSignature.mk s_symbols) = 0 ∧ nodes (GSignature.mk s_symbols) t ∧ 0 ≤ a ∧ a ≤ t.length) ∧ K (.int .i64 (if ep (GSignature.mk s_symbols) t 1 a.toNat < 0 then (t.length : Int) + 1 else ep (GSignature.mk s_symbols) t 1 a.toNat)) H Bd) := by
  refine propext ⟨fun h => ?_, fun h => ⟨_, _, _, rfl, h⟩⟩
  obtain ⟨s', t', a', e, h⟩ := h
  obtain ⟨ssymbols'⟩ := s'
  skip
  skip
  simp only [enc_GSignature, List.cons.injEq, Value.agg.injEq, toArr_inj, Value.int.injEq, Value.bool.injEq, Value.string.injEq, Value.slice.injEq, Value.func.injEq, Value.pointer.injEq, Option.some.injEq, Addr.mk.injEq, lst_inj, true_and, and_true] at e
  obtain ⟨rfl, rfl, rfl⟩ := e
  exact h
set_option maxHeartbeats 2000000 in
theorem W95_ok : OK 95 W95 := by
  rintro args H Bd K ⟨s, t, a, rfl, hpre, hK⟩
  refine fn_pure pok ((Env.base _).add 119 _ W119_ok) [(6, [0,1,2,3,4,5,6,7,8,9], [⟨0, [], []⟩, ⟨1, [], []⟩, ⟨2, [], []⟩, ⟨3, [], []⟩, ⟨4, [], []⟩, ⟨5, [], []⟩, ⟨6, [], []⟩, ⟨7, [], []⟩, ⟨8, [], []⟩, ⟨9, [], []⟩], .nil)] _ hK Tryz.func95 rfl (rs := [.tmp 6]) rfl Tryz.ntmps95 (by simp) Tryz.call95 (by kernel_rfl) (fun ha hb => .int _ _) (fun hb ha => ?_)
  obtain ⟨h1, h2, h3, h4, h5, h6⟩ := hpre
  have hss : sm s := h1
  have hlt2 := sm_len h2
  have hs := sig_ok h3
  obtain ⟨a, rfl⟩ := Int.eq_ofNat_of_zero_le h5
  have hout : ∀ (i : Nat), ep s t 1 a = ep s t (opn s t a i) (a + i) → a + i ≤ t.length → (opn s t a i = 0 → ep s t 1 a = a + i) := fun i h1 h2 h3 => by rw [h1, h3, ep_zero h2]; omega
  rcases ep_cases (s := s) (t := t) 1 (show a ≤ t.length by omega) with ⟨q1, _⟩ | ⟨m, q1, q2, q3, _⟩
  · have hv : (if ep s t 1 a < 0 then (t.length : Int) + 1 else ep s t 1 a) = t.length + 1 := if_pos (by omega)
    simp (maxSteps := 2000000) (disch := first | assumption | (refine asm_intro ?_; assumption) | exact Nat.le_add_right _ _ | exact Nat.le_refl _ | omega | (simp (disch := first | exact Nat.le_add_right _ _ | omega) only [Le_upd hb, Le_app hb, Le_rfl, free_T hb, free_upd]; done) | fail) only [go_sem, push_cast, and_pos, Le_updF, Le_upd hb, free_T hb, hv]
    refine tr_for (fun i => ep s t 1 a = ep s t (opn s t a i) (a + i) ∧ opn s t a i ≤ i + 1) (t.length - a) (fun i => [(1, lst t), (2, .int .i64 ((a : Int) + i)), (3, .pointer (some ⟨Bd, 0, none⟩)), (7, .int .i64 (opn s t a i))]) (⟨rfl, Nat.le_refl _⟩) (by simp only [go_sem, push_cast, and_pos, Le_updF, opn_zero, Int.add_zero]) ?_
    intro i Bi hIi hii hBi
    refine vq_conv pok (E := ((Env.base _).add 119 _ W119_ok)) (PL := [(6, [0,1,2,3,4,5,6,7,8,9], [⟨0, [], []⟩, ⟨1, [], []⟩, ⟨2, [], []⟩, ⟨3, [], []⟩, ⟨4, [], []⟩, ⟨5, [], []⟩, ⟨6, [], []⟩, ⟨7, [], []⟩, ⟨8, [], []⟩, ⟨9, [], []⟩], .nil)]) (by kernel_rfl) ?_
    rcases Nat.lt_or_ge i (t.length - a) with hlti | hgei
    · have hpos : 1 ≤ opn s t a i := by
        rcases Nat.eq_zero_or_pos (opn s t a i) with h | h
        · have := hout i hIi.1 (by omega) h; omega
        · exact h
      have e1 : t[a + i]? = some t[a + i] := List.getElem?_eq_getElem (by omega)
      have hn := h4 _ (List.getElem_mem (show a + i < t.length by omega))
      have hop := opn_succ (s := s) e1
      have hnx := opn_ep (s := s) e1 hpos
      have har := arN_le hs t[a + i]
      have hlt3 : (a : Int) + i < t.length := by omega
      have hcv : ((a : Int) + i).toNat = a + i := by omega
      have hi2 := hIi.2
      rw [hnx] at hIi
      have hi3 := hIi.1
      have hcc : (opn s t a i : Int) + (arN s t[a + i] - 1) = opn s t a (i + 1) := by omega
      have hcd : opn s t a (i + 1) ≤ i + 1 + 1 := by omega
      have hce : (a : Int) + i + 1 = a + (i + 1 : Nat) := by omega
      simp (maxSteps := 2000000) (disch := first | assumption | (refine asm_intro ?_; assumption) | exact Nat.le_add_right _ _ | exact Nat.le_refl _ | omega | (simp (disch := first | exact Nat.le_add_right _ _ | omega) only [Le_upd hb, Le_app hb, Le_rfl, free_T hb, free_upd]; done) | fail) only [go_sem, push_cast, and_pos, Le_updF, Le_upd hb, free_T hb, e1, hss, h3, hcv, hcc, hi3, hcd]
    · have hpos : 1 ≤ opn s t a i := by
        rcases Nat.eq_zero_or_pos (opn s t a i) with h | h
        · have := hout i hIi.1 (by omega) h; omega
        · exact h
      have hp2 : (0 : Int) < opn s t a i := by omega
      simp (maxSteps := 2000000) (disch := first | assumption | (refine asm_intro ?_; assumption) | exact Nat.le_add_right _ _ | exact Nat.le_refl _ | omega | (simp (disch := first | exact Nat.le_add_right _ _ | omega) only [Le_upd hb, Le_app hb, Le_rfl, free_T hb, free_upd]; done) | fail) only [go_sem, push_cast, and_pos, Le_updF, Le_upd hb, free_T hb, hp2]
  · have hv : (if ep s t 1 a < 0 then (t.length : Int) + 1 else ep s t 1 a) = a + m := by rw [if_neg (by omega), q3]; omega
    simp (maxSteps := 2000000) (disch := first | assumption | (refine asm_intro ?_; assumption) | exact Nat.le_add_right _ _ | exact Nat.le_refl _ | omega | (simp (disch := first | exact Nat.le_add_right _ _ | omega) only [Le_upd hb, Le_app hb, Le_rfl, free_T hb, free_upd]; done) | fail) only [go_sem, push_cast, and_pos, Le_updF, Le_upd hb, free_T hb, hv]
    refine tr_for (fun i => ep s t 1 a = ep s t (opn s t a i) (a + i) ∧ opn s t a i ≤ i + 1) (m) (fun i => [(1, lst t), (2, .int .i64 ((a : Int) + i)), (3, .pointer (some ⟨Bd, 0, none⟩)), (7, .int .i64 (opn s t a i))]) (⟨rfl, Nat.le_refl _⟩) (by simp only [go_sem, push_cast, and_pos, Le_updF, opn_zero, Int.add_zero]) ?_
    intro i Bi hIi hii hBi
    refine vq_conv pok (E := ((Env.base _).add 119 _ W119_ok)) (PL := [(6, [0,1,2,3,4,5,6,7,8,9], [⟨0, [], []⟩, ⟨1, [], []⟩, ⟨2, [], []⟩, ⟨3, [], []⟩, ⟨4, [], []⟩, ⟨5, [], []⟩, ⟨6, [], []⟩, ⟨7, [], []⟩, ⟨8, [], []⟩, ⟨9, [], []⟩], .nil)]) (by kernel_rfl) ?_
    rcases Nat.lt_or_ge i (m) with hlti | hgei
    · have hpos : 1 ≤ opn s t a i := by
        rcases Nat.eq_zero_or_pos (opn s t a i) with h | h
        · have := hout i hIi.1 (by omega) h; omega
        · exact h
      have e1 : t[a + i]? = some t[a + i] := List.getElem?_eq_getElem (by omega)
      have hn := h4 _ (List.getElem_mem (show a + i < t.length by omega))
      have hop := opn_succ (s := s) e1
      have hnx := opn_ep (s := s) e1 hpos
      have har := arN_le hs t[a + i]
      have hlt3 : (a : Int) + i < t.length := by omega
      have hcv : ((a : Int) + i).toNat = a + i := by omega
      have hi2 := hIi.2
      rw [hnx] at hIi
      have hi3 := hIi.1
      have hcc : (opn s t a i : Int) + (arN s t[a + i] - 1) = opn s t a (i + 1) := by omega
      have hcd : opn s t a (i + 1) ≤ i + 1 + 1 := by omega
      have hce : (a : Int) + i + 1 = a + (i + 1 : Nat) := by omega
      simp (maxSteps := 2000000) (disch := first | assumption | (refine asm_intro ?_; assumption) | exact Nat.le_add_right _ _ | exact Nat.le_refl _ | omega | (simp (disch := first | exact Nat.le_add_right _ _ | omega) only [Le_upd hb, Le_app hb, Le_rfl, free_T hb, free_upd]; done) | fail) only [go_sem, push_cast, and_pos, Le_updF, Le_upd hb, free_T hb, e1, hss, h3, hcv, hcc, hi3, hcd]
    · have hz : opn s t a i = 0 := by
        have h7 := hIi.1
        rcases ep_cases (s := s) (t := t) (opn s t a i) (show a + i ≤ t.length by omega) with ⟨g1, _⟩ | ⟨m', g1, g2, g3, _⟩
        · omega
        · omega
      simp (maxSteps := 2000000) (disch := first | assumption | (refine asm_intro ?_; assumption) | exact Nat.le_add_right _ _ | exact Nat.le_refl _ | omega | (simp (disch := first | exact Nat.le_add_right _ _ | omega) only [Le_upd hb, Le_app hb, Le_rfl, free_T hb, free_upd]; done) | fail) only [go_sem, push_cast, and_pos, Le_updF, Le_upd hb, free_T hb, hz]
      refine vq_conv pok (E := ((Env.base _).add 119 _ W119_ok)) (PL := [(6, [0,1,2,3,4,5,6,7,8,9], [⟨0, [], []⟩, ⟨1, [], []⟩, ⟨2, [], []⟩, ⟨3, [], []⟩, ⟨4, [], []⟩, ⟨5, [], []⟩, ⟨6, [], []⟩, ⟨7, [], []⟩, ⟨8, [], []⟩, ⟨9, [], []⟩], .nil)]) (by kernel_rfl) ?_
      simp (maxSteps := 2000000) (disch := first | assumption | (refine asm_intro ?_; assumption) | exact Nat.le_add_right _ _ | exact Nat.le_refl _ | omega | (simp (disch := first | exact Nat.le_add_right _ _ | omega) only [Le_upd hb, Le_app hb, Le_rfl, free_T hb, free_upd]; done) | fail) only [go_sem, push_cast, and_pos, Le_updF, Le_upd hb, free_T hb]
      omega
def W58 : Trans := fun args H Bd K => ∃ (s : GSignature) (t : List Int), args = [.agg (enc (s)).toArray, lst (t)] ∧ ((sm s ∧ sm t ∧ rg t) ∧ K (.int .i64 (termF s t)) H Bd)
@[go_sem ↓] theorem W58_eq (s_symbols : List GSymbol) (t : List Int) (H : AH) (Bd : Nat) (K : Value → AH → Nat → Prop) : W58 [.agg #[lst (s_symbols)], lst (t)] H Bd K = ((sm (GSignature.mk s_symbols) ∧ sm t ∧ rg t) ∧ K (.int .i64 (termF (GSignature.mk s_symbols) t)) H Bd) := by
  refine propext ⟨fun h => ?_, fun h => ⟨_, _, rfl, h⟩⟩
  obtain ⟨s', t', e, h⟩ := h
  obtain ⟨ssymbols'⟩ := s'
  skip
  simp only [enc_GSignature, List.cons.injEq, Value.agg.injEq, toArr_inj, Value.int.injEq, Value.bool.injEq, Value.string.injEq, Value.slice.injEq, Value.func.injEq, Value.pointer.injEq, Option.some.injEq, Addr.mk.injEq, lst_inj, true_and, and_true] at e
  obtain ⟨rfl, rfl⟩ := e
  exact h
set_option maxHeartbeats 2000000 in
theorem W58_ok : OK 58 W58 := by
  rintro args H Bd K ⟨s, t, rfl, hpre, hK⟩
  refine fn_pure pok ((((Env.base _).add 21 _ W21_ok).add 81 _ W81_93_ok).add 95 _ W95_ok) [(4, [], [], (.k 4 (.grp false 14 17 3 [15, 16, 17] 18 none (.k 3 .nil) .nil)))] _ hK Tryz.func58 rfl (rs := [.tmp 4]) rfl Tryz.ntmps58 (by simp) Tryz.call58 (by kernel_rfl) (fun ha hb => .int _ _) (fun hb ha => ?_)
  obtain ⟨h1, h2, h3⟩ := hpre
  have hss : sm s := h1
  simp only [sm_GSignature] at h1
  have hlen := sm_len h1
  have hlen2 := sm_len h2
  simp (maxSteps := 2000000) (disch := first | assumption | (refine asm_intro ?_; assumption) | exact Nat.le_add_right _ _ | exact Nat.le_refl _ | omega | (simp (disch := first | exact Nat.le_add_right _ _ | omega) only [Le_upd hb, Le_app hb, Le_rfl, free_T hb, free_upd]; done) | fail) only [go_sem, push_cast, and_pos, Le_updF, Le_upd hb, free_T hb, hss, h2]
  refine ⟨fun g1 => ⟨fun g2 => ?_, fun g2 g3 => ⟨h3, fun g4 => ?_, fun g4 => ⟨⟨nodes_any (by simpa using g4), by omega⟩, ?_⟩⟩⟩, fun g1 => ?_⟩
  · unfold termF termG; rw [if_neg (by simp [g1]), if_pos (by omega)]
  · unfold termF termG; rw [if_neg (by simp [g1]), if_neg (by omega), if_pos g4]
  · have e5 : termF s t = if ep s t 1 0 = t.length then 0 else 1 := by unfold termF termG; rw [if_neg (by simp [g1]), if_neg (by omega), if_neg (by simpa using g4)]
    rw [e5]
    rcases ep_cases (s := s) (t := t) 1 (Nat.zero_le _) with ⟨q1, _⟩ | ⟨m, q1, q2, q3, _⟩
    · rw [q1]
      refine ⟨fun h => ?_, fun h => ?_⟩
      · rw [if_pos (by omega)] at h; omega
      · rw [if_neg (by omega)]
    · rw [q3]
      refine ⟨fun h => ?_, fun h => ?_⟩
      · rw [if_neg (by omega)] at h; rw [if_pos h]
      · rw [if_neg (by omega)] at h; rw [if_neg h]
  · unfold termF; rw [if_pos g1]
def W80 : Trans := fun args H Bd K => ∃ (xs : List Int), args = [lst (xs)] ∧ ((sm xs) ∧ K (.int .i64 (firstF id xs)) H Bd)
@[go_sem ↓] theorem W80_eq (xs : List Int) (H : AH) (Bd : Nat) (K : Value → AH → Nat → Prop) : W80 [lst (xs)] H Bd K = ((sm xs) ∧ K (.int .i64 (firstF id xs)) H Bd) := by
  refine propext ⟨fun h => ?_, fun h => ⟨_, rfl, h⟩⟩
  obtain ⟨xs', e, h⟩ := h
  skip
  simp only [List.cons.injEq, Value.agg.injEq, toArr_inj, Value.int.injEq, Value.bool.injEq, Value.string.injEq, Value.slice.injEq, Value.func.injEq, Value.pointer.injEq, Option.some.injEq, Addr.mk.injEq, lst_inj, true_and, and_true] at e
  obtain rfl := e
  exact h
theorem W80_ok : OK 80 W80 := by
  rintro args H Bd K ⟨xs, rfl, hpre, hK⟩
  refine fn_pure pok (Env.base _) [] _ hK Tryz.func80 rfl (rs := [.tmp 2]) rfl Tryz.ntmps80 (by simp) Tryz.call80 (by kernel_rfl) (fun ha hb => .int _ _) (fun hb ha => ?_)
  have hlt2 := sm_len hpre
  simp (maxSteps := 2000000) (disch := first | assumption | (refine asm_intro ?_; assumption) | exact Nat.le_add_right _ _ | exact Nat.le_refl _ | omega | (simp (disch := first | exact Nat.le_add_right _ _ | omega) only [Le_upd hb, Le_app hb, Le_rfl, free_T hb, free_upd]; done) | fail) only [go_sem, push_cast, and_pos, Le_updF, Le_upd hb, free_T hb]
  refine tr_for (fun i => ∀ j, j < i → ∀ y, xs[j]? = some y → id y = 0) (xs.length) (fun i => [(3, .int .i64 0), (6, lst xs), (7, .int .i64 xs.length), (8, .int .i64 i)]) (fun j hj => absurd hj (Nat.not_lt_zero _)) (by simp only [go_sem, push_cast, and_pos, Le_updF]) ?_
  intro i Bi hIi hii hBi
  refine vq_conv pok (E := (Env.base _)) (PL := []) (by kernel_rfl) ?_
  rcases Nat.lt_or_ge i (xs.length) with hlti | hgei
  · have e1 : xs[i]? = some xs[i] := List.getElem?_eq_getElem hlti
    simp (maxSteps := 2000000) (disch := first | assumption | (refine asm_intro ?_; assumption) | exact Nat.le_add_right _ _ | exact Nat.le_refl _ | omega | (simp (disch := first | exact Nat.le_add_right _ _ | omega) only [Le_upd hb, Le_app hb, Le_rfl, free_T hb, free_upd]; done) | fail) only [go_sem, push_cast, and_pos, Le_updF, Le_upd hb, free_T hb, e1]
    refine ⟨fun h j hj y hy => ?_, fun h => (firstF_hit e1 hIi h).symm⟩
    · by_cases e : j = i
      · subst e; rw [e1] at hy; cases hy; exact h
      · exact hIi j (by omega) y hy
  · simp (maxSteps := 2000000) (disch := first | assumption | (refine asm_intro ?_; assumption) | exact Nat.le_add_right _ _ | exact Nat.le_refl _ | omega | (simp (disch := first | exact Nat.le_add_right _ _ | omega) only [Le_upd hb, Le_app hb, Le_rfl, free_T hb, free_upd]; done) | fail) only [go_sem, push_cast, and_pos, Le_updF, Le_upd hb, free_T hb]
    refine vq_conv pok (E := (Env.base _)) (PL := []) (by kernel_rfl) ?_
    simp (maxSteps := 2000000) (disch := first | assumption | (refine asm_intro ?_; assumption) | exact Nat.le_add_right _ _ | exact Nat.le_refl _ | omega | (simp (disch := first | exact Nat.le_add_right _ _ | omega) only [Le_upd hb, Le_app hb, Le_rfl, free_T hb, free_upd]; done) | fail) only [go_sem, push_cast, and_pos, Le_updF, Le_upd hb, free_T hb]
    exact (firstF_all fun x hx => by
      obtain ⟨j, hj, rfl⟩ := List.getElem_of_mem hx
      exact hIi j (by omega) _ (List.getElem?_eq_getElem hj)).symm
def W51b : Trans := fun args H Bd K => ∃ (xs : List Int), args = [lst (xs)] ∧ ((sm xs) ∧ K (.int .i64 (firstF id xs)) H Bd)
@[go_sem ↓] theorem W51b_eq (xs : List Int) (H : AH) (Bd : Nat) (K : Value → AH → Nat → Prop) : W51b [lst (xs)] H Bd K = ((sm xs) ∧ K (.int .i64 (firstF id xs)) H Bd) := by
  refine propext ⟨fun h => ?_, fun h => ⟨_, rfl, h⟩⟩
  obtain ⟨xs', e, h⟩ := h
  skip
  simp only [List.cons.injEq, Value.agg.injEq, toArr_inj, Value.int.injEq, Value.bool.injEq, Value.string.injEq, Value.slice.injEq, Value.func.injEq, Value.pointer.injEq, Option.some.injEq, Addr.mk.injEq, lst_inj, true_and, and_true] at e
  obtain rfl := e
  exact h
theorem W51b_ok : OK 51 W51b := by
  rintro args H Bd K ⟨xs, rfl, hpre, hK⟩
  refine fn_pure pok ((Env.base _).add 80 _ W80_ok) [] _ hK Tryz.func51 rfl (rs := [.tmp 2]) rfl Tryz.ntmps51 (by simp) Tryz.call51 (by kernel_rfl) (fun ha hb => .int _ _) (fun hb ha => ?_)
  simp (maxSteps := 2000000) (disch := first | assumption | (refine asm_intro ?_; assumption) | exact Nat.le_add_right _ _ | exact Nat.le_refl _ | omega | (simp (disch := first | exact Nat.le_add_right _ _ | omega) only [Le_upd hb, Le_app hb, Le_rfl, free_T hb, free_upd]; done) | fail) only [go_sem, push_cast, and_pos, Le_updF, Le_upd hb, free_T hb, hpre]

--GIVE
def W51 : Trans := GiveT 0 W51b
@[go_sem ↓] theorem W51_eq (v0 : Value) (H : AH) (Bd : Nat) (K : Value → AH → Nat → Prop) : W51 [v0] H Bd K = callW W51b (idS [giveV H v0]) (giveH H v0) Bd K := (rfl)
theorem W51_ok : OK 51 W51 := GiveT_ok 0 W51b_ok
def W114b : Trans := fun args H Bd K => ∃ (ts : List (List Int)), args = [lst (ts)] ∧ ((sm ts ∧ ts.length ≤ 100 ∧ ∀ t ∈ ts, t.length ≤ 24 ∧ smallN t) ∧ K (lst (uniqI (varsL ts))) H Bd)
@[go_sem ↓] theorem W114b_eq (ts : List (List Int)) (H : AH) (Bd : Nat) (K : Value → AH → Nat → Prop) : W114b [lst (ts)] H Bd K = ((sm ts ∧ ts.length ≤ 100 ∧ ∀ t ∈ ts, t.length ≤ 24 ∧ smallN t) ∧ K (lst (uniqI (varsL ts))) H Bd) := by
  refine propext ⟨fun h => ?_, fun h => ⟨_, rfl, h⟩⟩
  obtain ⟨ts', e, h⟩ := h
  skip
  simp only [List.cons.injEq, Value.agg.injEq, toArr_inj, Value.int.injEq, Value.bool.injEq, Value.string.injEq, Value.slice.injEq, Value.func.injEq, Value.pointer.injEq, Option.some.injEq, Addr.mk.injEq, lst_inj, true_and, and_true] at e
  obtain rfl := e
  exact h
set_option maxHeartbeats 2000000 in
theorem W114b_ok : OK 114 W114b := by
  rintro args H Bd K ⟨ts, rfl, hpre, hK⟩
  refine fn_pure pok (((Env.base _).add 125 _ W125_ok).add 126 _ W126_ok) [] _ hK Tryz.func114 rfl (rs := [.tmp 2]) rfl Tryz.ntmps114 (by simp) Tryz.call114 (by kernel_rfl) (fun ha hb => lst_nb _ _) (fun hb ha => ?_)
  obtain ⟨h1, h2, h3⟩ := hpre
  have hvl : ∀ i, (varsL (ts.take i)).length ≤ 2400 := fun i => by
    have := varsL_len (ts := ts.take i) fun t ht => (h3 t (List.mem_of_mem_take ht)).1
    rw [List.length_take] at this
    omega
  simp (maxSteps := 2000000) (disch := first | assumption | (refine asm_intro ?_; assumption) | exact Nat.le_add_right _ _ | exact Nat.le_refl _ | omega | (simp (disch := first | exact Nat.le_add_right _ _ | omega) only [Le_upd hb, Le_app hb, Le_rfl, free_T hb, free_upd]; done) | fail) only [go_sem, push_cast, and_pos, Le_updF, Le_upd hb, free_T hb]
  refine tr_st (X := Nat × Nat × Nat) (fun x => x.1 ≤ ts.length ∧ Bd ≤ x.2.1 ∧ 0 < x.2.2) (fun x => ts.length - x.1) (fun x => [(3, .slice (some ⟨x.2.1, 0, some 1⟩) (varsL (ts.take x.1)).length x.2.2), (9, lst ts), (10, .int .i64 ts.length), (11, .int .i64 x.1)]) (fun x => upd H x.2.1 (some ⟨flat (varsL (ts.take x.1)), true⟩)) (0, Bd, 1) (⟨Nat.zero_le _, Nat.le_refl _, Nat.zero_lt_one⟩) (by simp only [go_sem, push_cast, and_pos, Le_updF, List.take_zero, varsL_nil, flat_nil]; all_goals (try simp only [Value.int.injEq, Value.slice.injEq, true_and, and_true]) <;> all_goals (try (first | trivial | omega | grind))) (by first | exact Le.refl _ | simp (disch := first | assumption | omega) only [go_sem, push_cast, and_pos, Le_updF, Le_rfl, Le_upd2, List.take_zero, varsL_nil, flat_nil]) ?_
  intro x Bx hIx hBx hbx Fx hFx
  refine vq_conv pok (E := (((Env.base _).add 125 _ W125_ok).add 126 _ W126_ok)) (PL := []) (by kernel_rfl) ?_
  obtain ⟨i, n, c⟩ := x
  obtain ⟨i1, i2, i3⟩ := hIx
  simp only at i1 i2 i3 hbx
  have hnx := hb_lt hbx
  have hvi := hvl i
  rcases Nat.lt_or_ge i ts.length with hlt | hge
  · have e1 : ts[i]? = some ts[i] := List.getElem?_eq_getElem hlt
    have h4 := h3 _ (List.getElem_mem hlt)
    have h41 := h4.1
    simp (maxSteps := 2000000) (disch := first | assumption | (refine asm_intro ?_; assumption) | exact Nat.le_add_right _ _ | exact Nat.le_refl _ | omega | (simp (disch := first | exact Nat.le_add_right _ _ | omega) only [Le_upd hb, Le_app hb, Le_rfl, free_T hb, free_upd]; done) | fail) only [go_sem, push_cast, and_pos, Le_updF, Le_upd hb, free_T hb, e1]
    refine tr_st (X := Nat × Nat × Nat) (fun y => y.1 ≤ ts[i].length ∧ Bd ≤ y.2.1 ∧ 0 < y.2.2) (fun y => ts[i].length - y.1) (fun y => [(3, .slice (some ⟨y.2.1, 0, some 1⟩) (varsL (ts.take i) ++ vars1 (ts[i].take y.1)).length y.2.2), (9, lst ts), (10, .int .i64 ts.length), (11, .int .i64 i), (15, lst ts[i]), (16, .int .i64 ts[i].length), (17, .int .i64 y.1)]) (fun y => upd H y.2.1 (some ⟨flat (varsL (ts.take i) ++ vars1 (ts[i].take y.1)), true⟩)) (0, n, c) (⟨Nat.zero_le _, i2, i3⟩) (by simp only [go_sem, push_cast, and_pos, Le_updF, List.take_zero, vars1_nil, List.append_nil]; all_goals (try simp only [Value.int.injEq, Value.slice.injEq, true_and, and_true]) <;> all_goals (try (first | trivial | omega | grind))) (by first | exact Le.refl _ | simp (disch := first | assumption | omega) only [go_sem, push_cast, and_pos, Le_updF, Le_rfl, Le_upd2, List.take_zero, vars1_nil, List.append_nil]) ?_
    intro y By hIy hBy hby Fy hFy
    refine vq_conv pok (E := (((Env.base _).add 125 _ W125_ok).add 126 _ W126_ok)) (PL := []) (by kernel_rfl) ?_
    obtain ⟨j, m, d⟩ := y
    obtain ⟨j1, j2, j3⟩ := hIy
    simp only at j1 j2 j3 hby
    have hmy := hb_lt hby
    have hz : (d = 0) = False := eq_false (by omega)
    have hv1 := vars1_len (ts[i].take j)
    rw [List.length_take] at hv1
    rcases Nat.lt_or_ge j ts[i].length with hltj | hgej
    · have e2 : ts[i][j]? = some ts[i][j] := List.getElem?_eq_getElem hltj
      have hst := vars1_take hltj
      have hsm := h4.2 _ (List.getElem_mem hltj)
      by_cases hn : ts[i][j] < 0
      · have hst2 : varsL (ts.take i) ++ vars1 (ts[i].take (j + 1)) = (varsL (ts.take i) ++ vars1 (ts[i].take j)) ++ [-1 - ts[i][j]] := by rw [hst, if_pos hn, List.append_assoc]
        simp (maxSteps := 2000000) (disch := first | assumption | (refine asm_intro ?_; assumption) | exact Nat.le_add_right _ _ | exact Nat.le_refl _ | omega | (simp (disch := first | exact Nat.le_add_right _ _ | omega) only [Le_upd hb, Le_app hb, Le_rfl, free_T hb, free_upd]; done) | fail) only [go_sem, push_cast, and_pos, Le_updF, Le_upd hb, free_T hb, e2, hn, hz]
        refine ⟨by simp only [List.length_append]; omega, ?_⟩
        refine hFy (j + 1, By + 1, capUp ((varsL (ts.take i) ++ vars1 (ts[i].take j)).length + 1) (d - 1)) _ _ _ ?_ ?_ (by first | exact Le.refl _ | simp (disch := first | assumption | omega | (simp (disch := omega) only [free_upd, free_T hb]; done)) only [go_sem, push_cast, and_pos, Le_updF, Le_rfl, Le_upd2, free_upd, free_T hb, hst2, appVal, appHeap, flat_append, flat_one, List.length_append, List.length_cons, List.length_nil]) (by simp only [go_sem, push_cast, and_pos, Le_updF]) (by simp only [go_sem, push_cast, and_pos, Le_updF, hst2, appVal, appHeap, flat_append, flat_one, List.length_append, List.length_cons, List.length_nil]; all_goals (try simp only [Value.int.injEq, Value.slice.injEq, true_and, and_true]) <;> all_goals (try (first | trivial | omega | grind)))
        · show ts[i].length - (j + 1) < ts[i].length - j
          omega
        · refine ⟨by omega, show Bd ≤ By + 1 by omega, ?_⟩
          show 0 < capUp _ _
          unfold capUp; split <;> omega
      · rw [if_neg hn, List.append_nil] at hst
        simp (maxSteps := 2000000) (disch := first | assumption | (refine asm_intro ?_; assumption) | exact Nat.le_add_right _ _ | exact Nat.le_refl _ | omega | (simp (disch := first | exact Nat.le_add_right _ _ | omega) only [Le_upd hb, Le_app hb, Le_rfl, free_T hb, free_upd]; done) | fail) only [go_sem, push_cast, and_pos, Le_updF, Le_upd hb, free_T hb, e2, hn]
        refine hFy (j + 1, m, d) _ _ _ ?_ ?_ (by first | exact Le.refl _ | simp (disch := first | assumption | omega | (simp (disch := omega) only [free_upd, free_T hb]; done)) only [go_sem, push_cast, and_pos, Le_updF, Le_rfl, Le_upd2, free_upd, free_T hb, hst]) (by simp only [go_sem, push_cast, and_pos, Le_updF]) (by simp only [go_sem, push_cast, and_pos, Le_updF, hst]; all_goals (try simp only [Value.int.injEq, Value.slice.injEq, true_and, and_true]) <;> all_goals (try (first | trivial | omega | grind)))
        · show ts[i].length - (j + 1) < ts[i].length - j
          omega
        · exact ⟨by omega, j2, j3⟩
    · have hst := varsL_take hlt
      rw [List.take_of_length_le hgej] at hby ⊢
      simp (maxSteps := 2000000) (disch := first | assumption | (refine asm_intro ?_; assumption) | exact Nat.le_add_right _ _ | exact Nat.le_refl _ | omega | (simp (disch := first | exact Nat.le_add_right _ _ | omega) only [Le_upd hb, Le_app hb, Le_rfl, free_T hb, free_upd]; done) | fail) only [go_sem, push_cast, and_pos, Le_updF, Le_upd hb, free_T hb]
      refine hFx (i + 1, m, d) _ _ _ ?_ ?_ (by first | exact Le.refl _ | simp (disch := first | assumption | omega | (simp (disch := omega) only [free_upd, free_T hb]; done)) only [go_sem, push_cast, and_pos, Le_updF, Le_rfl, Le_upd2, free_upd, free_T hb, hst]) (by simp only [go_sem, push_cast, and_pos, Le_updF]) (by simp only [go_sem, push_cast, and_pos, Le_updF, hst]; all_goals (try simp only [Value.int.injEq, Value.slice.injEq, true_and, and_true]) <;> all_goals (try (first | trivial | omega | grind)))
      · show ts.length - (i + 1) < ts.length - i
        omega
      · exact ⟨by omega, j2, j3⟩
  · rw [List.take_of_length_le hge] at hbx hvi ⊢
    simp (maxSteps := 2000000) (disch := first | assumption | (refine asm_intro ?_; assumption) | exact Nat.le_add_right _ _ | exact Nat.le_refl _ | omega | (simp (disch := first | exact Nat.le_add_right _ _ | omega) only [Le_upd hb, Le_app hb, Le_rfl, free_T hb, free_upd]; done) | fail) only [go_sem, push_cast, and_pos, Le_updF, Le_upd hb, free_T hb]
    refine vq_conv pok (E := (((Env.base _).add 125 _ W125_ok).add 126 _ W126_ok)) (PL := []) (by kernel_rfl) ?_
    simp (maxSteps := 2000000) (disch := first | assumption | (refine asm_intro ?_; assumption) | exact Nat.le_add_right _ _ | exact Nat.le_refl _ | omega | (simp (disch := first | exact Nat.le_add_right _ _ | omega) only [Le_upd hb, Le_app hb, Le_rfl, free_T hb, free_upd]; done) | fail) only [go_sem, push_cast, and_pos, Le_updF, Le_upd hb, free_T hb, sort_len]
    refine pub_flat (α := Int) (upd_same _ _ _) rfl ?_ (hb.fresh n (by omega)) rfl rfl
    show ((flat (uniqI (varsL ts) ++ _)).drop 0).take ((uniqI (varsL ts)).length * Enc.k Int) = _
    rw [List.drop_zero, flat_take, List.take_left' rfl]

--GIVE
def W114 : Trans := GiveT 0 W114b
@[go_sem ↓] theorem W114_eq (v0 : Value) (H : AH) (Bd : Nat) (K : Value → AH → Nat → Prop) : W114 [v0] H Bd K = callW W114b (idS [giveV H v0]) (giveH H v0) Bd K := (rfl)
theorem W114_ok : OK 114 W114 := GiveT_ok 0 W114b_ok
def W115 : Trans := fun args H Bd K => ∃ (v : Int), args = [.int .i64 (v)] ∧ (K (.bool (decide (6 ≤ v))) H Bd)
@[go_sem ↓] theorem W115_eq (v : Int) (H : AH) (Bd : Nat) (K : Value → AH → Nat → Prop) : W115 [.int .i64 (v)] H Bd K = (K (.bool (decide (6 ≤ v))) H Bd) := by
  refine propext ⟨fun h => ?_, fun h => ⟨_, rfl, h⟩⟩
  obtain ⟨v', e, h⟩ := h
  skip
  simp only [List.cons.injEq, Value.agg.injEq, toArr_inj, Value.int.injEq, Value.bool.injEq, Value.string.injEq, Value.slice.injEq, Value.func.injEq, Value.pointer.injEq, Option.some.injEq, Addr.mk.injEq, lst_inj, true_and, and_true] at e
  obtain rfl := e
  exact h
theorem W115_ok : OK 115 W115 := by
  rintro args H Bd K ⟨v, rfl, hK⟩
  refine fn_pure pok (Env.base _) [] _ hK Tryz.func115 rfl (rs := [.tmp 2]) rfl Tryz.ntmps115 (by simp) Tryz.call115 (by kernel_rfl) (fun ha hb => .bool _) (fun hb ha => ?_)
  simp (maxSteps := 2000000) (disch := first | assumption | (refine asm_intro ?_; assumption) | exact Nat.le_add_right _ _ | exact Nat.le_refl _ | omega | (simp (disch := first | exact Nat.le_add_right _ _ | omega) only [Le_upd hb, Le_app hb, Le_rfl, free_T hb, free_upd]; done) | fail) only [go_sem, push_cast, and_pos, Le_updF, Le_upd hb, free_T hb]
def V81_115 : Trans := fun args H Bd K => ∃ (xs : List Int), args = [lst (xs)] ∧ ((sm xs) ∧ K (.bool (xs.any (fun v : Int => decide (6 ≤ v)))) H Bd)
@[go_sem ↓] theorem V81_115_eq (xs : List Int) (H : AH) (Bd : Nat) (K : Value → AH → Nat → Prop) : V81_115 [lst (xs)] H Bd K = ((sm xs) ∧ K (.bool (xs.any (fun v : Int => decide (6 ≤ v)))) H Bd) := by
  refine propext ⟨fun h => ?_, fun h => ⟨_, rfl, h⟩⟩
  obtain ⟨xs', e, h⟩ := h
  skip
  simp only [List.cons.injEq, Value.agg.injEq, toArr_inj, Value.int.injEq, Value.bool.injEq, Value.string.injEq, Value.slice.injEq, Value.func.injEq, Value.pointer.injEq, Option.some.injEq, Addr.mk.injEq, lst_inj, true_and, and_true] at e
  obtain rfl := e
  exact h
def W81_115 : Trans := fun args H Bd K => ∃ (vxs : Value), args = [vxs, .func (.func 115) #[] #[]] ∧ callW V81_115 [vxs] H Bd K
@[go_sem ↓] theorem W81_115_eq (vxs : Value) (H : AH) (Bd : Nat) (K : Value → AH → Nat → Prop) : W81_115 [vxs, .func (.func 115) #[] #[]] H Bd K = (callW V81_115 (idS [vxs]) H Bd K) := by
  refine propext ⟨fun h => ?_, fun h => ⟨_, rfl, h⟩⟩
  obtain ⟨vxs', e, h⟩ := h
  simp only [List.cons.injEq, Value.func.injEq, toArr_inj, List.cons.injEq, and_true, true_and] at e
  obtain rfl := e
  exact h
theorem W81_115_ok : OK 81 W81_115 := by
  rintro args H Bd K ⟨vxs, rfl, h⟩
  obtain ⟨xs, e, hpre, hK⟩ := h
  simp only [List.cons.injEq, and_true] at e
  obtain rfl := e
  refine G81 115 #[] (fun v : Int => decide (6 ≤ v)) xs H Bd K hpre (fun x hx B hB K' hk => ?_) hK
  exact W115_ok _ _ _ _ ⟨x, rfl, hk⟩
def W85 : Trans := fun args H Bd K => ∃ (s : GSignature) (e : GEquation), args = [.agg (enc (s)).toArray, .agg (enc (e)).toArray] ∧ ((sm s ∧ sm e ∧ rg e) ∧ K (.int .i64 (eqnF s e)) H Bd)
@[go_sem ↓] theorem W85_eq (s_symbols : List GSymbol) (e_left : List Int) (e_right : List Int) (H : AH) (Bd : Nat) (K : Value → AH → Nat → Prop) : W85 [.agg #[lst (s_symbols)], .agg #[lst (e_left), lst (e_right)]] H Bd K = ((sm (GSignature.mk s_symbols) ∧ sm (GEquation.mk e_left e_right) ∧ rg (GEquation.mk e_left e_right)) ∧ K (.int .i64 (eqnF (GSignature.mk s_symbols) (GEquation.mk e_left e_right))) H Bd) := by
  refine propext ⟨fun h => ?_, fun h => ⟨_, _, rfl, h⟩⟩
  obtain ⟨s', e', e, h⟩ := h
  obtain ⟨ssymbols'⟩ := s'
  obtain ⟨eleft', eright'⟩ := e'
  simp only [enc_GEquation, enc_GSignature, List.cons.injEq, Value.agg.injEq, toArr_inj, Value.int.injEq, Value.bool.injEq, Value.string.injEq, Value.slice.injEq, Value.func.injEq, Value.pointer.injEq, Option.some.injEq, Addr.mk.injEq, lst_inj, true_and, and_true] at e
  obtain ⟨rfl, ⟨rfl, rfl⟩⟩ := e
  exact h
theorem W85_ok : OK 85 W85 := by
  rintro args H Bd K ⟨s, e, rfl, hpre, hK⟩
  refine fn_pure pok (((((Env.base _).add 58 _ W58_ok).add 51 _ W51_ok).add 114 _ W114_ok).add 81 _ W81_115_ok) [(1, [0,1,2,4,5,6,3,7,8,9,10], [⟨0, [], []⟩, ⟨1, [], []⟩, ⟨2, [], []⟩, ⟨4, [], []⟩, ⟨5, [], []⟩, ⟨6, [], []⟩, ⟨3, [], [6,4]⟩, ⟨7, [], []⟩, ⟨8, [], []⟩, ⟨9, [8], []⟩, ⟨10, [], []⟩], .nil)] _ hK Tryz.func85 rfl (rs := [.tmp 4]) rfl Tryz.ntmps85 (by simp) Tryz.call85 (by kernel_rfl) (fun ha hb => .int _ _) (fun hb ha => ?_)
  obtain ⟨h1, h2, h3⟩ := hpre
  simp only [sm_GEquation] at h2
  have h4 := h2.1
  have h5 := h2.2
  have h6 : rg e.left := h3.1
  have h7 : rg e.right := h3.2
  simp (maxSteps := 2000000) (disch := first | assumption | (refine asm_intro ?_; assumption) | exact Nat.le_add_right _ _ | exact Nat.le_refl _ | omega | (simp (disch := first | exact Nat.le_add_right _ _ | omega) only [Le_upd hb, Le_app hb, Le_rfl, free_T hb, free_upd]; done) | fail) only [go_sem, push_cast, and_pos, Le_updF, Le_upd hb, free_T hb, h1, h4, h5, h6, h7]
  refine ⟨(sm_ints _).2 (by simp), ?_⟩
  rw [firstF2]
  by_cases g0 : sigF s = 0
  · have hs := sig_ok g0
    rw [termF_G g0, termF_G g0]
    have hv : eqnF s e = eqnG s e := by unfold eqnF; rw [if_neg (by simp [g0])]
    rw [hv]
    by_cases t1 : termG s e.left = 0
    · by_cases t2 : termG s e.right = 0
      · have o1 := term_small hs (term_ok t1)
        have o2 := term_small hs (term_ok t2)
        have hall : ∀ t ∈ [e.left, e.right], t.length ≤ 24 ∧ smallN t := fun t ht => by
          rcases List.mem_cons.1 ht with rfl | ht
          · exact o1
          · rw [List.mem_singleton.1 ht]; exact o2
        rw [if_neg (by simp [t1]), vars_low]
        refine ⟨fun _ => ⟨⟨sm_two h4 h5, hall⟩, sm_uniq (by simp) fun t ht => (hall t ht).1, fun h => ?_, fun h => ?_⟩, fun h => absurd t2 h⟩
        · unfold eqnG
          rw [if_neg (by simp [t1]), if_neg (by simp [t2]), if_neg]
          intro hc
          rw [hc.1, hc.2] at h; cases h
        · unfold eqnG
          rw [if_neg (by simp [t1]), if_neg (by simp [t2]), if_pos]
          cases q1 : lowB e.left <;> cases q2 : lowB e.right <;> simp [q1, q2] at h ⊢
      · rw [if_neg (by simp [t1])]
        refine ⟨fun h => absurd h t2, fun _ => ?_⟩
        unfold eqnG; rw [if_neg (by simp [t1]), if_pos t2]
    · rw [if_pos t1]
      refine ⟨fun h => absurd h t1, fun _ => ?_⟩
      unfold eqnG; rw [if_pos t1]
  · have ht : ∀ t, termF s t = sigF s := fun t => by unfold termF; rw [if_pos g0]
    rw [ht, ht, if_pos g0]
    refine ⟨fun h => absurd h g0, fun _ => ?_⟩
    unfold eqnF; rw [if_pos g0]
def W53 : Trans := fun args H Bd K => ∃ (s : GSignature) (l : List GEquation), args = [.agg (enc (s)).toArray, lst (l)] ∧ ((sm s ∧ sm l ∧ rg l) ∧ K (.int .i64 (eqsF s l)) H Bd)
@[go_sem ↓] theorem W53_eq (s_symbols : List GSymbol) (l : List GEquation) (H : AH) (Bd : Nat) (K : Value → AH → Nat → Prop) : W53 [.agg #[lst (s_symbols)], lst (l)] H Bd K = ((sm (GSignature.mk s_symbols) ∧ sm l ∧ rg l) ∧ K (.int .i64 (eqsF (GSignature.mk s_symbols) l)) H Bd) := by
  refine propext ⟨fun h => ?_, fun h => ⟨_, _, rfl, h⟩⟩
  obtain ⟨s', l', e, h⟩ := h
  obtain ⟨ssymbols'⟩ := s'
  skip
  simp only [enc_GSignature, List.cons.injEq, Value.agg.injEq, toArr_inj, Value.int.injEq, Value.bool.injEq, Value.string.injEq, Value.slice.injEq, Value.func.injEq, Value.pointer.injEq, Option.some.injEq, Addr.mk.injEq, lst_inj, true_and, and_true] at e
  obtain ⟨rfl, rfl⟩ := e
  exact h
set_option maxHeartbeats 2000000 in
theorem W53_ok : OK 53 W53 := by
  rintro args H Bd K ⟨s, l, rfl, hpre, hK⟩
  refine fn_pure pok (((Env.base _).add 21 _ W21_ok).add 85 _ W85_ok) [] _ hK Tryz.func53 rfl (rs := [.tmp 4]) rfl Tryz.ntmps53 (by simp) Tryz.call53 (by kernel_rfl) (fun ha hb => .int _ _) (fun hb ha => ?_)
  obtain ⟨h1, h2, h3⟩ := hpre
  have hlt2 := sm_len h2
  simp (maxSteps := 2000000) (disch := first | assumption | (refine asm_intro ?_; assumption) | exact Nat.le_add_right _ _ | exact Nat.le_refl _ | omega | (simp (disch := first | exact Nat.le_add_right _ _ | omega) only [Le_upd hb, Le_app hb, Le_rfl, free_T hb, free_upd]; done) | fail) only [go_sem, push_cast, and_pos, Le_updF, Le_upd hb, free_T hb, h1]
  refine ⟨fun g1 => ?_, fun g1 => ?_⟩
  · have hv0 : eqsF s l = eqsG s l := by unfold eqsF; rw [if_neg (by simp [g1])]
    refine ⟨fun hq => ?_, fun hq => ?_⟩
    · rw [hv0]; unfold eqsG; rw [if_pos (by omega)]
    · have hv : eqsF s l = firstF (eqnF s) l := by
        rw [hv0]; unfold eqsG; rw [if_neg (by omega)]
        congr 1; funext e; unfold eqnF; rw [if_neg (by simp [g1])]
      rw [hv]
      refine tr_for (fun i => ∀ j, j < i → ∀ y, l[j]? = some y → eqnF s y = 0) (l.length) (fun i => [(2, .pointer (some ⟨Bd, 0, none⟩)), (17, lst l), (18, .int .i64 l.length), (19, .int .i64 i)]) (fun j hj => absurd hj (Nat.not_lt_zero _)) (by simp only [go_sem, push_cast, and_pos, Le_updF]) ?_
      intro i Bi hIi hii hBi
      refine vq_conv pok (E := (((Env.base _).add 21 _ W21_ok).add 85 _ W85_ok)) (PL := []) (by kernel_rfl) ?_
      rcases Nat.lt_or_ge i (l.length) with hlti | hgei
      · have e1 : l[i]? = some l[i] := List.getElem?_eq_getElem hlti
        have h5 := sm_mem h2 (List.getElem_mem hlti)
        have h6 := h3 _ (List.getElem_mem hlti)
        simp (maxSteps := 2000000) (disch := first | assumption | (refine asm_intro ?_; assumption) | exact Nat.le_add_right _ _ | exact Nat.le_refl _ | omega | (simp (disch := first | exact Nat.le_add_right _ _ | omega) only [Le_upd hb, Le_app hb, Le_rfl, free_T hb, free_upd]; done) | fail) only [go_sem, push_cast, and_pos, Le_updF, Le_upd hb, free_T hb, e1, h1, h5, h6]
        refine ⟨fun h j hj y hy => ?_, fun h => (firstF_hit e1 hIi h).symm⟩
        · by_cases e : j = i
          · subst e; rw [e1] at hy; cases hy; exact h
          · exact hIi j (by omega) y hy
      · simp (maxSteps := 2000000) (disch := first | assumption | (refine asm_intro ?_; assumption) | exact Nat.le_add_right _ _ | exact Nat.le_refl _ | omega | (simp (disch := first | exact Nat.le_add_right _ _ | omega) only [Le_upd hb, Le_app hb, Le_rfl, free_T hb, free_upd]; done) | fail) only [go_sem, push_cast, and_pos, Le_updF, Le_upd hb, free_T hb]
        refine vq_conv pok (E := (((Env.base _).add 21 _ W21_ok).add 85 _ W85_ok)) (PL := []) (by kernel_rfl) ?_
        simp (maxSteps := 2000000) (disch := first | assumption | (refine asm_intro ?_; assumption) | exact Nat.le_add_right _ _ | exact Nat.le_refl _ | omega | (simp (disch := first | exact Nat.le_add_right _ _ | omega) only [Le_upd hb, Le_app hb, Le_rfl, free_T hb, free_upd]; done) | fail) only [go_sem, push_cast, and_pos, Le_updF, Le_upd hb, free_T hb]
        exact (firstF_all fun x hx => by
          obtain ⟨j, hj, rfl⟩ := List.getElem_of_mem hx
          exact hIi j (by omega) _ (List.getElem?_eq_getElem hj)).symm
  · unfold eqsF; rw [if_pos g1]
theorem G116 (g : Nat) (caps : Array Value) (p : GEquation → Bool) (xs : List GEquation) (H : AH) (Bd : Nat) (K : Value → AH → Nat → Prop) (hsm : sm xs) (hg : ∀ x ∈ xs, ∀ B, Bd ≤ B → ∀ K' : Value → AH → Nat → Prop, K' (.bool (p x)) H B → SCalls Tryz.prog g (idS ((.agg (enc (x)).toArray) :: caps.toList)) H B K') (hK : K (.int .i64 (fidx p xs)) H Bd) : SCalls Tryz.prog 116 [lst xs, .func (.func g) #[] caps] H Bd K := by
  refine fn_pure pok (Env.base _) [] _ hK Tryz.func116 rfl (rs := [.tmp 4]) rfl Tryz.ntmps116 (by simp) Tryz.call116 (by kernel_rfl) (fun ha hb => .int _ _) (fun hb ha => ?_)
  have hlen := sm_len hsm
  simp (maxSteps := 2000000) (disch := first | assumption | (refine asm_intro ?_; assumption) | exact Nat.le_add_right _ _ | exact Nat.le_refl _ | omega | (simp (disch := first | exact Nat.le_add_right _ _ | omega) only [Le_upd hb, Le_app hb, Le_rfl, free_T hb, free_upd]; done) | fail) only [go_sem, push_cast, and_pos, Le_updF, Le_upd hb, free_T hb]
  refine tr_for (fun i => ∀ j, j < i → ∀ x, xs[j]? = some x → p x = false) (xs.length) (fun i => [(0, lst xs), (1, .func (.func g) #[] caps), (7, .int .i64 xs.length), (8, .int .i64 i)]) (by simp) (by simp only [go_sem, push_cast, and_pos, Le_updF]) ?_
  intro i Bi hIi hii hBi
  refine vq_conv pok (E := (Env.base _)) (PL := []) (by kernel_rfl) ?_
  rcases Nat.lt_or_ge i (xs.length) with hlti | hgei
  · have e1 : xs[i]? = some xs[i] := List.getElem?_eq_getElem hlti
    simp (maxSteps := 2000000) (disch := first | assumption | (refine asm_intro ?_; assumption) | exact Nat.le_add_right _ _ | exact Nat.le_refl _ | omega | (simp (disch := first | exact Nat.le_add_right _ _ | omega) only [Le_upd hb, Le_app hb, Le_rfl, free_T hb, free_upd]; done) | fail) only [go_sem, push_cast, and_pos, Le_updF, Le_upd hb, free_T hb, e1]
    refine hg _ (List.getElem_mem hlti) _ (by omega) _ ?_
    simp (maxSteps := 2000000) (disch := first | assumption | (refine asm_intro ?_; assumption) | exact Nat.le_add_right _ _ | exact Nat.le_refl _ | omega | (simp (disch := first | exact Nat.le_add_right _ _ | omega) only [Le_upd hb, Le_app hb, Le_rfl, free_T hb, free_upd]; done) | fail) only [go_sem, push_cast, and_pos, Le_updF, Le_upd hb, free_T hb, e1]
    exact ⟨fun h => by rw [fidx_hit hlti hIi h], fun h => fun j hj x hx => by
      by_cases e : j = i
      · subst e; rw [e1] at hx; cases hx; simpa using h
      · exact hIi j (by omega) x hx⟩
  · simp (maxSteps := 2000000) (disch := first | assumption | (refine asm_intro ?_; assumption) | exact Nat.le_add_right _ _ | exact Nat.le_refl _ | omega | (simp (disch := first | exact Nat.le_add_right _ _ | omega) only [Le_upd hb, Le_app hb, Le_rfl, free_T hb, free_upd]; done) | fail) only [go_sem, push_cast, and_pos, Le_updF, Le_upd hb, free_T hb]
    refine vq_conv pok (E := (Env.base _)) (PL := []) (by kernel_rfl) ?_
    simp (maxSteps := 2000000) (disch := first | assumption | (refine asm_intro ?_; assumption) | exact Nat.le_add_right _ _ | exact Nat.le_refl _ | omega | (simp (disch := first | exact Nat.le_add_right _ _ | omega) only [Le_upd hb, Le_app hb, Le_rfl, free_T hb, free_upd]; done) | fail) only [go_sem, push_cast, and_pos, Le_updF, Le_upd hb, free_T hb]
    rw [fidx_none fun j hj x hx => hIi j (by omega) x hx]
theorem G86 (g : Nat) (caps : Array Value) (p : GEquation → Bool) (xs : List GEquation) (H : AH) (Bd : Nat) (K : Value → AH → Nat → Prop) (hsm : sm xs) (hg : ∀ x ∈ xs, ∀ B, Bd ≤ B → ∀ K' : Value → AH → Nat → Prop, K' (.bool (p x)) H B → SCalls Tryz.prog g (idS ((.agg (enc (x)).toArray) :: caps.toList)) H B K') (hK : K (.bool (xs.any p)) H Bd) : SCalls Tryz.prog 86 [lst xs, .func (.func g) #[] caps] H Bd K := by
  refine fn_pure pok (Env.base _) [] _ hK Tryz.func86 rfl (rs := [.tmp 4]) rfl Tryz.ntmps86 (by simp) Tryz.call86 (by kernel_rfl) (fun ha hb => .bool _) (fun hb ha => ?_)
  simp (maxSteps := 2000000) (disch := first | assumption | (refine asm_intro ?_; assumption) | exact Nat.le_add_right _ _ | exact Nat.le_refl _ | omega | (simp (disch := first | exact Nat.le_add_right _ _ | omega) only [Le_upd hb, Le_app hb, Le_rfl, free_T hb, free_upd]; done) | fail) only [go_sem, push_cast, and_pos, Le_updF, Le_upd hb, free_T hb]
  refine G116 _ _ p xs _ _ _ hsm hg ?_
  simp (maxSteps := 2000000) (disch := first | assumption | (refine asm_intro ?_; assumption) | exact Nat.le_add_right _ _ | exact Nat.le_refl _ | omega | (simp (disch := first | exact Nat.le_add_right _ _ | omega) only [Le_upd hb, Le_app hb, Le_rfl, free_T hb, free_upd]; done) | fail) only [go_sem, push_cast, and_pos, Le_updF, Le_upd hb, free_T hb]
  exact fidx_ge p xs
def V117 : Trans := fun args H Bd K => ∃ (v : Int) (l : List Int), args = [.int .i64 (v), .agg (enc (l)).toArray] ∧ ((sm l) ∧ K (.bool (!l.any fun x => decide (v = x))) H Bd)
@[go_sem ↓] theorem V117_eq (v : Int) (l : List Int) (H : AH) (Bd : Nat) (K : Value → AH → Nat → Prop) : V117 [.int .i64 (v), .agg #[lst (l)]] H Bd K = ((sm l) ∧ K (.bool (!l.any fun x => decide (v = x))) H Bd) := by
  refine propext ⟨fun h => ?_, fun h => ⟨_, _, rfl, h⟩⟩
  obtain ⟨v', l', e, h⟩ := h
  skip
  skip
  simp only [enc_int, enc_str, enc_list, enc_bool, enc_byte, List.cons.injEq, Value.agg.injEq, toArr_inj, Value.int.injEq, Value.bool.injEq, Value.string.injEq, Value.slice.injEq, Value.func.injEq, Value.pointer.injEq, Option.some.injEq, Addr.mk.injEq, lst_inj, true_and, and_true] at e
  obtain ⟨rfl, rfl⟩ := e
  exact h
def W117 : Trans := fun args H Bd K => ∃ (vv pl : Value), args = [vv, pl] ∧ Yld (cellsAt H 1 pl) fun cl => callW V117 [vv, .agg cl.toArray] H Bd K
@[go_sem ↓] theorem W117_eq (vv pl : Value) (H : AH) (Bd : Nat) (K : Value → AH → Nat → Prop) : W117 [vv, pl] H Bd K = (Yld (cellsAt H 1 pl) fun cl => callW V117 (idS [vv, .agg cl.toArray]) H Bd K) := by
  refine propext ⟨fun h => ?_, fun h => ⟨_, _, rfl, h⟩⟩
  obtain ⟨vv', pl', e, h⟩ := h
  simp only [List.cons.injEq, and_true] at e
  obtain ⟨rfl, rfl⟩ := e
  exact h
theorem W117_ok : OK 117 W117 := by
  rintro args H Bd K ⟨vv, pl, rfl, cl, el, h⟩
  obtain ⟨v, l, e, hpre, hK⟩ := h
  simp only [List.cons.injEq, and_true] at e
  obtain ⟨rfl, El⟩ := e
  obtain rfl := agg_inj El
  refine fn_pure pok ((Env.base _).add 84 _ W84_ok) [] _ hK Tryz.func117 rfl (rs := [.tmp 3]) rfl Tryz.ntmps117 (by simp) Tryz.call117 (by kernel_rfl) (fun ha hb => .bool _) (fun hb ha => ?_)
  have Pl := cellsAt_out el (NB.vpok (ha pl (by simp)))
  simp only [enc_int, enc_str, enc_list, enc_bool, enc_byte] at Pl
  simp (maxSteps := 2000000) (disch := first | assumption | (refine asm_intro ?_; assumption) | exact Nat.le_add_right _ _ | exact Nat.le_refl _ | omega | (simp (disch := first | exact Nat.le_add_right _ _ | omega) only [Le_upd hb, Le_app hb, Le_rfl, free_T hb, free_upd]; done) | fail) only [go_sem, push_cast, and_pos, Le_updF, Le_upd hb, free_T hb, Pl.nil, Pl.fldL (m := 1) rfl, Pl.ldL (m := 1) rfl, Pl.ld0L (m := 1) rfl, Pl.cellsL (m := 1) rfl, Pl.cellsOL (m := 1) rfl, hpre]

def V81_117 : Trans := fun args H Bd K => ∃ (xs : List Int) (l : List Int), args = [lst (xs), .agg (enc (l)).toArray] ∧ ((sm xs ∧ ∀ v ∈ xs, sm l) ∧ K (.bool (xs.any (fun v : Int => !l.any fun x => decide (v = x)))) H Bd)
@[go_sem ↓] theorem V81_117_eq (xs : List Int) (l : List Int) (H : AH) (Bd : Nat) (K : Value → AH → Nat → Prop) : V81_117 [lst (xs), .agg #[lst (l)]] H Bd K = ((sm xs ∧ ∀ v ∈ xs, sm l) ∧ K (.bool (xs.any (fun v : Int => !l.any fun x => decide (v = x)))) H Bd) := by
  refine propext ⟨fun h => ?_, fun h => ⟨_, _, rfl, h⟩⟩
  obtain ⟨xs', l', e, h⟩ := h
  skip
  skip
  simp only [enc_int, enc_str, enc_list, enc_bool, enc_byte, List.cons.injEq, Value.agg.injEq, toArr_inj, Value.int.injEq, Value.bool.injEq, Value.string.injEq, Value.slice.injEq, Value.func.injEq, Value.pointer.injEq, Option.some.injEq, Addr.mk.injEq, lst_inj, true_and, and_true] at e
  obtain ⟨rfl, rfl⟩ := e
  exact h
def W81_117 : Trans := fun args H Bd K => ∃ (vxs pl : Value), args = [vxs, .func (.func 117) #[] #[pl]] ∧ Yld (cellsAt H 1 pl) fun cl => callW V81_117 [vxs, .agg cl.toArray] H Bd K
@[go_sem ↓] theorem W81_117_eq (vxs pl : Value) (H : AH) (Bd : Nat) (K : Value → AH → Nat → Prop) : W81_117 [vxs, .func (.func 117) #[] #[pl]] H Bd K = (Yld (cellsAt H 1 pl) fun cl => callW V81_117 (idS [vxs, .agg cl.toArray]) H Bd K) := by
  refine propext ⟨fun h => ?_, fun h => ⟨_, _, rfl, h⟩⟩
  obtain ⟨vxs', pl', e, h⟩ := h
  simp only [List.cons.injEq, Value.func.injEq, toArr_inj, List.cons.injEq, and_true, true_and] at e
  obtain ⟨rfl, rfl⟩ := e
  exact h
theorem W81_117_ok : OK 81 W81_117 := by
  rintro args H Bd K ⟨vxs, pl, rfl, cl, el, h⟩
  obtain ⟨xs, l, e, hpre, hK⟩ := h
  simp only [List.cons.injEq, and_true] at e
  obtain ⟨rfl, El⟩ := e
  obtain rfl := agg_inj El
  refine G81 117 #[pl] (fun v : Int => !l.any fun x => decide (v = x)) xs H Bd K hpre.1 (fun x hx B hB K' hk => ?_) hK
  exact W117_ok _ _ _ _ ⟨_, _, rfl, _, el, x, l, rfl, hpre.2 x hx, hk⟩

def W88 : Trans := fun args H Bd K => ∃ (e : GEquation), args = [.agg (enc (e)).toArray] ∧ ((sm e ∧ e.left.length ≤ 24 ∧ e.right.length ≤ 24 ∧ smallN e.left ∧ smallN e.right ∧ 1 ≤ e.left.length) ∧ K (.bool (ruleOK e)) H Bd)
@[go_sem ↓] theorem W88_eq (e_left : List Int) (e_right : List Int) (H : AH) (Bd : Nat) (K : Value → AH → Nat → Prop) : W88 [.agg #[lst (e_left), lst (e_right)]] H Bd K = ((sm (GEquation.mk e_left e_right) ∧ (GEquation.mk e_left e_right).left.length ≤ 24 ∧ (GEquation.mk e_left e_right).right.length ≤ 24 ∧ smallN (GEquation.mk e_left e_right).left ∧ smallN (GEquation.mk e_left e_right).right ∧ 1 ≤ (GEquation.mk e_left e_right).left.length) ∧ K (.bool (ruleOK (GEquation.mk e_left e_right))) H Bd) := by
  refine propext ⟨fun h => ?_, fun h => ⟨_, rfl, h⟩⟩
  obtain ⟨e', e, h⟩ := h
  obtain ⟨eleft', eright'⟩ := e'
  simp only [enc_GEquation, List.cons.injEq, Value.agg.injEq, toArr_inj, Value.int.injEq, Value.bool.injEq, Value.string.injEq, Value.slice.injEq, Value.func.injEq, Value.pointer.injEq, Option.some.injEq, Addr.mk.injEq, lst_inj, true_and, and_true] at e
  obtain ⟨rfl, rfl⟩ := e
  exact h
theorem W88_ok : OK 88 W88 := by
  rintro args H Bd K ⟨e, rfl, hpre, hK⟩
  refine fn_pure pok (((Env.base _).add 114 _ W114_ok).add 81 _ W81_117_ok) [] _ hK Tryz.func88 rfl (rs := [.tmp 2]) rfl Tryz.ntmps88 (by simp) Tryz.call88 (by kernel_rfl) (fun ha hb => .bool _) (fun hb ha => ?_)
  obtain ⟨h1, h2, h3, h4, h5, h6⟩ := hpre
  simp only [sm_GEquation] at h1
  have h7 := h1.1
  have h8 := h1.2
  have e2 : e.left[0]? = some (e.left[0]'(by omega)) := List.getElem?_eq_getElem _
  simp (maxSteps := 2000000) (disch := first | assumption | (refine asm_intro ?_; assumption) | exact Nat.le_add_right _ _ | exact Nat.le_refl _ | omega | (simp (disch := first | exact Nat.le_add_right _ _ | omega) only [Le_upd hb, Le_app hb, Le_rfl, free_T hb, free_upd]; done) | fail) only [go_sem, push_cast, and_pos, Le_updF, Le_upd hb, free_T hb, e2, h7, h8, h4, h5]
  have e3 : e.left.headD 0 = e.left[0]'(by omega) := headD_get h6
  have hone : ∀ t : List Int, t.length ≤ 24 → smallN t → ∀ x ∈ [t], x.length ≤ 24 ∧ smallN x := fun t a b x hx => by rw [List.mem_singleton.1 hx]; exact ⟨a, b⟩
  refine ⟨fun h => ?_, fun h => ⟨⟨sm_one h7, hone _ h2 h4⟩, ⟨sm_one h8, hone _ h3 h5⟩, ⟨sm_uniq (by simp) fun t ht => (hone _ h3 h5 t ht).1, fun v _ => sm_uniq (by simp) fun t ht => (hone _ h2 h4 t ht).1⟩, ?_⟩⟩
  · unfold ruleOK
    rw [e3, decide_eq_false (by omega)]; rfl
  · rw [vars_rule]
    unfold ruleOK
    rw [e3, decide_eq_true (by omega)]; rfl

def W87 : Trans := fun args H Bd K => ∃ (e : GEquation), args = [.agg (enc (e)).toArray] ∧ ((sm e ∧ e.left.length ≤ 24 ∧ e.right.length ≤ 24 ∧ smallN e.left ∧ smallN e.right ∧ 1 ≤ e.left.length) ∧ K (.bool (!ruleOK e)) H Bd)
@[go_sem ↓] theorem W87_eq (e_left : List Int) (e_right : List Int) (H : AH) (Bd : Nat) (K : Value → AH → Nat → Prop) : W87 [.agg #[lst (e_left), lst (e_right)]] H Bd K = ((sm (GEquation.mk e_left e_right) ∧ (GEquation.mk e_left e_right).left.length ≤ 24 ∧ (GEquation.mk e_left e_right).right.length ≤ 24 ∧ smallN (GEquation.mk e_left e_right).left ∧ smallN (GEquation.mk e_left e_right).right ∧ 1 ≤ (GEquation.mk e_left e_right).left.length) ∧ K (.bool (!ruleOK (GEquation.mk e_left e_right))) H Bd) := by
  refine propext ⟨fun h => ?_, fun h => ⟨_, rfl, h⟩⟩
  obtain ⟨e', e, h⟩ := h
  obtain ⟨eleft', eright'⟩ := e'
  simp only [enc_GEquation, List.cons.injEq, Value.agg.injEq, toArr_inj, Value.int.injEq, Value.bool.injEq, Value.string.injEq, Value.slice.injEq, Value.func.injEq, Value.pointer.injEq, Option.some.injEq, Addr.mk.injEq, lst_inj, true_and, and_true] at e
  obtain ⟨rfl, rfl⟩ := e
  exact h
theorem W87_ok : OK 87 W87 := by
  rintro args H Bd K ⟨e, rfl, hpre, hK⟩
  refine fn_pure pok ((Env.base _).add 88 _ W88_ok) [] _ hK Tryz.func87 rfl (rs := [.tmp 2]) rfl Tryz.ntmps87 (by simp) Tryz.call87 (by kernel_rfl) (fun ha hb => .bool _) (fun hb ha => ?_)
  simp (maxSteps := 2000000) (disch := first | assumption | (refine asm_intro ?_; assumption) | exact Nat.le_add_right _ _ | exact Nat.le_refl _ | omega | (simp (disch := first | exact Nat.le_add_right _ _ | omega) only [Le_upd hb, Le_app hb, Le_rfl, free_T hb, free_upd]; done) | fail) only [go_sem, push_cast, and_pos, Le_updF, Le_upd hb, free_T hb, hpre]

def V86_87 : Trans := fun args H Bd K => ∃ (xs : List GEquation), args = [lst (xs)] ∧ ((sm xs ∧ ∀ e ∈ xs, sm e ∧ e.left.length ≤ 24 ∧ e.right.length ≤ 24 ∧ smallN e.left ∧ smallN e.right ∧ 1 ≤ e.left.length) ∧ K (.bool (xs.any (fun e : GEquation => !ruleOK e))) H Bd)
@[go_sem ↓] theorem V86_87_eq (xs : List GEquation) (H : AH) (Bd : Nat) (K : Value → AH → Nat → Prop) : V86_87 [lst (xs)] H Bd K = ((sm xs ∧ ∀ e ∈ xs, sm e ∧ e.left.length ≤ 24 ∧ e.right.length ≤ 24 ∧ smallN e.left ∧ smallN e.right ∧ 1 ≤ e.left.length) ∧ K (.bool (xs.any (fun e : GEquation => !ruleOK e))) H Bd) := by
  refine propext ⟨fun h => ?_, fun h => ⟨_, rfl, h⟩⟩
  obtain ⟨xs', e, h⟩ := h
  skip
  simp only [List.cons.injEq, Value.agg.injEq, toArr_inj, Value.int.injEq, Value.bool.injEq, Value.string.injEq, Value.slice.injEq, Value.func.injEq, Value.pointer.injEq, Option.some.injEq, Addr.mk.injEq, lst_inj, true_and, and_true] at e
  obtain rfl := e
  exact h
def W86_87 : Trans := fun args H Bd K => ∃ (vxs : Value), args = [vxs, .func (.func 87) #[] #[]] ∧ callW V86_87 [vxs] H Bd K
@[go_sem ↓] theorem W86_87_eq (vxs : Value) (H : AH) (Bd : Nat) (K : Value → AH → Nat → Prop) : W86_87 [vxs, .func (.func 87) #[] #[]] H Bd K = (callW V86_87 (idS [vxs]) H Bd K) := by
  refine propext ⟨fun h => ?_, fun h => ⟨_, rfl, h⟩⟩
  obtain ⟨vxs', e, h⟩ := h
  simp only [List.cons.injEq, Value.func.injEq, toArr_inj, List.cons.injEq, and_true, true_and] at e
  obtain rfl := e
  exact h
theorem W86_87_ok : OK 86 W86_87 := by
  rintro args H Bd K ⟨vxs, rfl, h⟩
  obtain ⟨xs, e, hpre, hK⟩ := h
  simp only [List.cons.injEq, and_true] at e
  obtain rfl := e
  refine G86 87 #[] (fun e : GEquation => !ruleOK e) xs H Bd K hpre.1 (fun x hx B hB K' hk => ?_) hK
  exact W87_ok _ _ _ _ ⟨x, rfl, hpre.2 x hx, hk⟩

def W54 : Trans := fun args H Bd K => ∃ (s : GSignature) (l : List GEquation), args = [.agg (enc (s)).toArray, lst (l)] ∧ ((sm s ∧ sm l ∧ rg l) ∧ K (.int .i64 (rulesF s l)) H Bd)
@[go_sem ↓] theorem W54_eq (s_symbols : List GSymbol) (l : List GEquation) (H : AH) (Bd : Nat) (K : Value → AH → Nat → Prop) : W54 [.agg #[lst (s_symbols)], lst (l)] H Bd K = ((sm (GSignature.mk s_symbols) ∧ sm l ∧ rg l) ∧ K (.int .i64 (rulesF (GSignature.mk s_symbols) l)) H Bd) := by
  refine propext ⟨fun h => ?_, fun h => ⟨_, _, rfl, h⟩⟩
  obtain ⟨s', l', e, h⟩ := h
  obtain ⟨ssymbols'⟩ := s'
  skip
  simp only [enc_GSignature, List.cons.injEq, Value.agg.injEq, toArr_inj, Value.int.injEq, Value.bool.injEq, Value.string.injEq, Value.slice.injEq, Value.func.injEq, Value.pointer.injEq, Option.some.injEq, Addr.mk.injEq, lst_inj, true_and, and_true] at e
  obtain ⟨rfl, rfl⟩ := e
  exact h
theorem W54_ok : OK 54 W54 := by
  rintro args H Bd K ⟨s, l, rfl, hpre, hK⟩
  refine fn_pure pok (((Env.base _).add 53 _ W53_ok).add 86 _ W86_87_ok) [] _ hK Tryz.func54 rfl (rs := [.tmp 4]) rfl Tryz.ntmps54 (by simp) Tryz.call54 (by kernel_rfl) (fun ha hb => .int _ _) (fun hb ha => ?_)
  obtain ⟨h1, h2, h3⟩ := hpre
  simp (maxSteps := 2000000) (disch := first | assumption | (refine asm_intro ?_; assumption) | exact Nat.le_add_right _ _ | exact Nat.le_refl _ | omega | (simp (disch := first | exact Nat.le_add_right _ _ | omega) only [Le_upd hb, Le_app hb, Le_rfl, free_T hb, free_upd]; done) | fail) only [go_sem, push_cast, and_pos, Le_updF, Le_upd hb, free_T hb, h1, h2, h3]
  by_cases g0 : sigF s = 0
  · have hs := sig_ok g0
    have v1 : eqsF s l = eqsG s l := by unfold eqsF; rw [if_neg (by simp [g0])]
    have v2 : rulesF s l = rulesG s l := by unfold rulesF; rw [if_neg (by simp [g0])]
    rw [v1, v2]
    refine ⟨fun h => ⟨fun e he => ?_, fun a => ?_, fun a => ?_⟩, fun h => ?_⟩
    · have h4 := eqnG_zero ((eqsG_zero h).2 e he)
      have o1 := term_small hs h4.1
      have o2 := term_small hs h4.2.1
      exact ⟨sm_mem h2 he, o1.1, o2.1, o1.2, o2.2, h4.1.len.1⟩
    · unfold rulesG
      rw [if_neg (by simp [h]), if_neg]
      intro hc
      rw [← any_not, a] at hc; cases hc
    · unfold rulesG
      rw [if_neg (by simp [h]), if_pos]
      rw [← any_not]
      cases q : (l.any fun e => !ruleOK e) <;> simp [q] at a ⊢
    · unfold rulesG; rw [if_pos h]
  · have v1 : eqsF s l = sigF s := by unfold eqsF; rw [if_pos g0]
    have v2 : rulesF s l = sigF s := by unfold rulesF; rw [if_pos g0]
    rw [v1, v2]
    exact ⟨fun h => absurd h g0, fun _ => rfl⟩

def W136 : Trans := fun args H Bd K => ∃ (s : GSignature) (t : List Int) (a : Int), args = [.agg (enc (s)).toArray, lst (t), .int .i64 (a)] ∧ ((sm s ∧ sm t ∧ sigF s = 0 ∧ nodes s t ∧ 0 ≤ a ∧ a < t.length ∧ 0 ≤ ep s t 1 a.toNat) ∧ K (lst (subT s t a.toNat)) H Bd)
@[go_sem ↓] theorem W136_eq (s_symbols : List GSymbol) (t : List Int) (a : Int) (H : AH) (Bd : Nat) (K : Value → AH → Nat → Prop) : W136 [.agg #[lst (s_symbols)], lst (t), .int .i64 (a)] H Bd K = ((sm (GSignature.mk s_symbols) ∧ sm t ∧ sigF (GSignature.mk s_symbols) = 0 ∧ nodes (GSignature.mk s_symbols) t ∧ 0 ≤ a ∧ a < t.length ∧ 0 ≤ ep (GSignature.mk s_symbols) t 1 a.toNat) ∧ K (lst (subT (GSignature.mk s_symbols) t a.toNat)) H Bd) := by
  refine propext ⟨fun h => ?_, fun h => ⟨_, _, _, rfl, h⟩⟩
  obtain ⟨s', t', a', e, h⟩ := h
  obtain ⟨ssymbols'⟩ := s'
  skip
  skip
  simp only [enc_GSignature, List.cons.injEq, Value.agg.injEq, toArr_inj, Value.int.injEq, Value.bool.injEq, Value.string.injEq, Value.slice.injEq, Value.func.injEq, Value.pointer.injEq, Option.some.injEq, Addr.mk.injEq, lst_inj, true_and, and_true] at e
  obtain ⟨rfl, rfl, rfl⟩ := e
  exact h
theorem W136_ok : OK 136 W136 := by
  rintro args H Bd K ⟨s, t, a, rfl, hpre, hK⟩
  refine fn_pure pok ((Env.base _).add 95 _ W95_ok) [] _ hK Tryz.func136 rfl (rs := [.tmp 6]) rfl Tryz.ntmps136 (by simp) Tryz.call136 (by kernel_rfl) (fun ha hb => lst_nb _ _) (fun hb ha => ?_)
  obtain ⟨h1, h2, h3, h4, h5, h6, h7⟩ := hpre
  obtain ⟨a, rfl⟩ := Int.eq_ofNat_of_zero_le h5
  simp only [Int.toNat_natCast] at h7
  have hlt2 := sm_len h2
  rcases ep_cases (s := s) (t := t) 1 (show a ≤ t.length by omega) with ⟨q1, _⟩ | ⟨m, q1, q2, q3, _⟩
  · omega
  have hif : (if ep s t 1 a < 0 then (t.length : Int) + 1 else ep s t 1 a) = (a + m : Nat) := by rw [if_neg (by omega), q3]
  simp (maxSteps := 2000000) (disch := first | assumption | (refine asm_intro ?_; assumption) | exact Nat.le_add_right _ _ | exact Nat.le_refl _ | omega | (simp (disch := first | exact Nat.le_add_right _ _ | omega) only [Le_upd hb, Le_app hb, Le_rfl, free_T hb, free_upd]; done) | fail) only [go_sem, push_cast, and_pos, Le_updF, Le_upd hb, free_T hb, h1, h2, h3, h4, hif]
  have c1 : ((a : Int) + m).toNat = a + m := by omega
  have d1 : subT s t a = (t.take (a + m)).drop a := by unfold subT; rw [q3, Int.toNat_natCast, List.drop_take]
  rw [c1, d1]
  exact .same _

end Go.Proofs.YtliijoclogakdaaGreatDoor
