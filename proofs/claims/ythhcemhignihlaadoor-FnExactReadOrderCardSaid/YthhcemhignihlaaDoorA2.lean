/- YthhcemhignihlaaDoorA2 -/
import Derived.Test.YthhcemhignihlaaDoorA1
set_option linter.unusedSimpArgs false
set_option linter.unusedVariables false
set_option maxRecDepth 20000
namespace Go.Proofs.YthhcemhignihlaaDoor
open Go Go.SC

def W65 : Trans := fun args H Bd K => ∃ (xs : List Int) (y : Int), args = [lst (xs), .int .i64 (y)] ∧ ((sm xs) ∧ K (.int .i64 (fidx (fun x => decide (y = x)) xs)) H Bd)
@[go_sem ↓] theorem W65_eq (xs : List Int) (y : Int) (H : AH) (Bd : Nat) (K : Value → AH → Nat → Prop) : W65 [lst (xs), .int .i64 (y)] H Bd K = ((sm xs) ∧ K (.int .i64 (fidx (fun x => decide (y = x)) xs)) H Bd) := by
  refine propext ⟨fun h => ?_, fun h => ⟨_, _, rfl, h⟩⟩
  obtain ⟨xs', y', e, h⟩ := h
  skip
  skip
  simp only [List.cons.injEq, Value.agg.injEq, toArr_inj, Value.int.injEq, Value.bool.injEq, Value.string.injEq, Value.slice.injEq, Value.func.injEq, Value.pointer.injEq, Option.some.injEq, Addr.mk.injEq, lst_inj, true_and, and_true] at e
  obtain ⟨rfl, rfl⟩ := e
  exact h
theorem W65_ok : OK 65 W65 := by
  rintro args H Bd K ⟨xs, y, rfl, hpre, hK⟩
  refine fn_pure pok (Env.base _) [] _ hK Tryd.func65 rfl (rs := [.tmp 4]) rfl Tryd.ntmps65 (by simp) Tryd.call65 (by kernel_rfl) (fun ha hb => .int _ _) (fun hb ha => ?_)
  have hlen := sm_len hpre
  simp (maxSteps := 2000000) (disch := first | assumption | (refine asm_intro ?_; assumption) | exact Nat.le_add_right _ _ | exact Nat.le_refl _ | omega | (simp (disch := first | exact Nat.le_add_right _ _ | omega) only [Le_upd hb, Le_app hb, Le_rfl, free_T hb, free_upd]; done) | fail) only [go_sem, push_cast, and_pos, Le_updF, Le_upd hb, free_T hb]
  refine tr_for (fun i => ∀ j, j < i → ∀ x, xs[j]? = some x → decide (y = x) = false) (xs.length) (fun i => [(0, lst xs), (1, .int .i64 y), (7, .int .i64 xs.length), (8, .int .i64 i)]) (by simp) (by simp only [go_sem, push_cast, and_pos, Le_updF]) ?_
  intro i Bi hIi hii hBi
  refine vq_conv pok (E := (Env.base _)) (PL := []) (by kernel_rfl) ?_
  rcases Nat.lt_or_ge i (xs.length) with hlti | hgei
  · have e1 : xs[i]? = some xs[i] := List.getElem?_eq_getElem hlti
    simp (maxSteps := 2000000) (disch := first | assumption | (refine asm_intro ?_; assumption) | exact Nat.le_add_right _ _ | exact Nat.le_refl _ | omega | (simp (disch := first | exact Nat.le_add_right _ _ | omega) only [Le_upd hb, Le_app hb, Le_rfl, free_T hb, free_upd]; done) | fail) only [go_sem, push_cast, and_pos, Le_updF, Le_upd hb, free_T hb, e1]
    exact ⟨fun h => by rw [fidx_hit hlti hIi (by simpa using h)], fun h => fun j hj x hx => by
      by_cases e : j = i
      · subst e; rw [e1] at hx; cases hx; simpa using h
      · simpa using hIi j (by omega) x hx⟩
  · simp (maxSteps := 2000000) (disch := first | assumption | (refine asm_intro ?_; assumption) | exact Nat.le_add_right _ _ | exact Nat.le_refl _ | omega | (simp (disch := first | exact Nat.le_add_right _ _ | omega) only [Le_upd hb, Le_app hb, Le_rfl, free_T hb, free_upd]; done) | fail) only [go_sem, push_cast, and_pos, Le_updF, Le_upd hb, free_T hb]
    refine vq_conv pok (E := (Env.base _)) (PL := []) (by kernel_rfl) ?_
    simp (maxSteps := 2000000) (disch := first | assumption | (refine asm_intro ?_; assumption) | exact Nat.le_add_right _ _ | exact Nat.le_refl _ | omega | (simp (disch := first | exact Nat.le_add_right _ _ | omega) only [Le_upd hb, Le_app hb, Le_rfl, free_T hb, free_upd]; done) | fail) only [go_sem, push_cast, and_pos, Le_updF, Le_upd hb, free_T hb]
    rw [fidx_none fun j hj x hx => hIi j (by omega) x hx]

def W57 : Trans := fun args H Bd K => ∃ (xs : List Int) (y : Int), args = [lst (xs), .int .i64 (y)] ∧ ((sm xs) ∧ K (.bool (xs.any (fun x => decide (y = x)))) H Bd)
@[go_sem ↓] theorem W57_eq (xs : List Int) (y : Int) (H : AH) (Bd : Nat) (K : Value → AH → Nat → Prop) : W57 [lst (xs), .int .i64 (y)] H Bd K = ((sm xs) ∧ K (.bool (xs.any (fun x => decide (y = x)))) H Bd) := by
  refine propext ⟨fun h => ?_, fun h => ⟨_, _, rfl, h⟩⟩
  obtain ⟨xs', y', e, h⟩ := h
  skip
  skip
  simp only [List.cons.injEq, Value.agg.injEq, toArr_inj, Value.int.injEq, Value.bool.injEq, Value.string.injEq, Value.slice.injEq, Value.func.injEq, Value.pointer.injEq, Option.some.injEq, Addr.mk.injEq, lst_inj, true_and, and_true] at e
  obtain ⟨rfl, rfl⟩ := e
  exact h
theorem W57_ok : OK 57 W57 := by
  rintro args H Bd K ⟨xs, y, rfl, hpre, hK⟩
  refine fn_pure pok ((Env.base _).add 65 _ W65_ok) [] _ hK Tryd.func57 rfl (rs := [.tmp 4]) rfl Tryd.ntmps57 (by simp) Tryd.call57 (by kernel_rfl) (fun ha hb => .bool _) (fun hb ha => ?_)
  simp (maxSteps := 2000000) (disch := first | assumption | (refine asm_intro ?_; assumption) | exact Nat.le_add_right _ _ | exact Nat.le_refl _ | omega | (simp (disch := first | exact Nat.le_add_right _ _ | omega) only [Le_upd hb, Le_app hb, Le_rfl, free_T hb, free_upd]; done) | fail) only [go_sem, push_cast, and_pos, Le_updF, Le_upd hb, free_T hb, hpre]
  exact fidx_ge _ xs

def W33 : Trans := fun args H Bd K => ∃ (s : GSignature) (order : List Int), args = [.agg (enc (s)).toArray, lst (order)] ∧ ((sm s ∧ sm order ∧ rg order) ∧ K (.int .i64 (ordF s order)) H Bd)
@[go_sem ↓] theorem W33_eq (s_symbols : List GSymbol) (order : List Int) (H : AH) (Bd : Nat) (K : Value → AH → Nat → Prop) : W33 [.agg #[lst (s_symbols)], lst (order)] H Bd K = ((sm (GSignature.mk s_symbols) ∧ sm order ∧ rg order) ∧ K (.int .i64 (ordF (GSignature.mk s_symbols) order)) H Bd) := by
  refine propext ⟨fun h => ?_, fun h => ⟨_, _, rfl, h⟩⟩
  obtain ⟨s', order', e, h⟩ := h
  obtain ⟨ssymbols'⟩ := s'
  skip
  simp only [enc_GSignature, List.cons.injEq, Value.agg.injEq, toArr_inj, Value.int.injEq, Value.bool.injEq, Value.string.injEq, Value.slice.injEq, Value.func.injEq, Value.pointer.injEq, Option.some.injEq, Addr.mk.injEq, lst_inj, true_and, and_true] at e
  obtain ⟨rfl, rfl⟩ := e
  exact h
set_option maxHeartbeats 2000000 in
theorem W33_ok : OK 33 W33 := by
  rintro args H Bd K ⟨s, order, rfl, hpre, hK⟩
  refine fn_pure pok ((((Env.base _).add 30 _ W30_ok).add 54 _ W54_55_ok).add 57 _ W57_ok) [] _ hK Tryd.func33 rfl (rs := [.tmp 4]) rfl Tryd.ntmps33 (by simp) Tryd.call33 (by kernel_rfl) (fun ha hb => .int _ _) (fun hb ha => ?_)
  obtain ⟨h1, h2, h3⟩ := hpre
  have hss : sm s := h1
  simp only [sm_GSignature] at h1
  have hlen := sm_len h1
  have hlen2 := sm_len h2
  simp (maxSteps := 2000000) (disch := first | assumption | (refine asm_intro ?_; assumption) | exact Nat.le_add_right _ _ | exact Nat.le_refl _ | omega | (simp (disch := first | exact Nat.le_add_right _ _ | omega) only [Le_upd hb, Le_app hb, Le_rfl, free_T hb, free_upd]; done) | fail) only [go_sem, push_cast, and_pos, Le_updF, Le_upd hb, free_T hb, hss, h2]
  refine ⟨fun g1 => ⟨fun g2 => ⟨fun n hn => h3 n hn, fun g3 => ?_, fun g3 => ?_⟩, fun g2 => ?_⟩, fun g1 => ?_⟩
  · unfold ordF ordG; rw [if_neg (by simp [g1]), if_neg (by omega), if_pos g3]
  · have hs : ordF s order = if order.Nodup then 0 else 6 := by unfold ordF ordG; rw [if_neg (by simp [g1]), if_neg (by omega), if_neg g3]
    rw [hs]
    refine tr_for (fun j => ∀ a b x y, b < a → a < j → order[a]? = some x → order[b]? = some y → x ≠ y) (order.length) (fun j => [(1, lst order), (22, lst order), (23, .int .i64 order.length), (24, .int .i64 j)]) (by simp) (by simp only [go_sem, push_cast, and_pos, Le_updF]) ?_
    intro j Bj hIj hij hBj
    refine vq_conv pok (E := ((((Env.base _).add 30 _ W30_ok).add 54 _ W54_55_ok).add 57 _ W57_ok)) (PL := []) (by kernel_rfl) ?_
    rcases Nat.lt_or_ge j (order.length) with hltj | hgej
    · have e1 : order[j]? = some order[j] := List.getElem?_eq_getElem hltj
      have h4 : sm (order.take j) := sm_take h2 j
      simp (maxSteps := 2000000) (disch := first | assumption | (refine asm_intro ?_; assumption) | exact Nat.le_add_right _ _ | exact Nat.le_refl _ | omega | (simp (disch := first | exact Nat.le_add_right _ _ | omega) only [Le_upd hb, Le_app hb, Le_rfl, free_T hb, free_upd]; done) | fail) only [go_sem, push_cast, and_pos, Le_updF, Le_upd hb, free_T hb, e1, h4]
      refine ⟨fun h => ?_, fun h => ?_⟩
      · obtain ⟨x, hx, he⟩ := List.any_eq_true.1 h
        obtain ⟨k, hk, rfl⟩ := List.getElem_of_mem hx
        have hk' : k < j := by simp at hk; omega
        rw [if_neg (nodup_not hk' hltj (by simpa using he))]
      · intro a b x y g4 g5 g6 g7
        by_cases e : a = j
        · subst e
          rw [e1] at g6; cases g6
          intro e
          refine h (List.any_eq_true.2 ⟨y, ?_, by simpa using e⟩)
          exact List.mem_of_getElem? (i := b) (by rw [List.getElem?_take, if_pos g4]; exact g7)
        · exact hIj a b x y g4 (by omega) g6 g7
    · simp (maxSteps := 2000000) (disch := first | assumption | (refine asm_intro ?_; assumption) | exact Nat.le_add_right _ _ | exact Nat.le_refl _ | omega | (simp (disch := first | exact Nat.le_add_right _ _ | omega) only [Le_upd hb, Le_app hb, Le_rfl, free_T hb, free_upd]; done) | fail) only [go_sem, push_cast, and_pos, Le_updF, Le_upd hb, free_T hb]
      refine vq_conv pok (E := ((((Env.base _).add 30 _ W30_ok).add 54 _ W54_55_ok).add 57 _ W57_ok)) (PL := []) (by kernel_rfl) ?_
      simp (maxSteps := 2000000) (disch := first | assumption | (refine asm_intro ?_; assumption) | exact Nat.le_add_right _ _ | exact Nat.le_refl _ | omega | (simp (disch := first | exact Nat.le_add_right _ _ | omega) only [Le_upd hb, Le_app hb, Le_rfl, free_T hb, free_upd]; done) | fail) only [go_sem, push_cast, and_pos, Le_updF, Le_upd hb, free_T hb]
      rw [if_pos (nodup_of fun i j x y h1 h2 h3 => hIj i j x y h1 (by have := (List.getElem?_eq_some_iff.1 h2).1; omega) h2 h3)]
  · unfold ordF ordG; rw [if_neg (by simp [g1]), if_pos (by omega)]
  · unfold ordF; rw [if_pos g1]

theorem L33_pure : PureV W33 := by
  rintro args H Bd K ⟨x0, x1, rfl, hpre, hK⟩
  exact ⟨_, by first | exact .bool _ | exact .int _ _ | exact .string _, hK, fun H' K' hs h => ⟨x0, x1, rfl, hpre, h⟩⟩
def L33 : Trans := LendA W33
@[go_sem ↓] theorem L33_eq (v0 v1 : Value) (H : AH) (Bd : Nat) (K : Value → AH → Nat → Prop) : L33 [v0, v1] H Bd K = callW W33 (idS [giveA H v0, giveA H v1]) H Bd K := (rfl)
theorem L33_ok : OK 33 L33 := LendA_ok W33_ok L33_pure

def W13 : Trans := fun args H Bd K => ∃ (s : GSignature) (t : ByteArray), args = [.agg (enc (s)).toArray, .string (t)] ∧ ((sm s ∧ t.size ≤ 1048576 ∧ PT H ∧ GP < Bd) ∧ K (.agg #[.int .i64 ((readOrd s t).code), .slice (some ⟨Bd, 0, some 1⟩) ((readOrd s t).list).length (((readOrd s t).list).length + 1)]) (upd H Bd (some ⟨flat ((readOrd s t).list), true⟩)) (Bd + 1))
@[go_sem ↓] theorem W13_eq (s_symbols : List GSymbol) (t : ByteArray) (H : AH) (Bd : Nat) (K : Value → AH → Nat → Prop) : W13 [.agg #[lst (s_symbols)], .string (t)] H Bd K = ((sm (GSignature.mk s_symbols) ∧ t.size ≤ 1048576 ∧ PT H ∧ GP < Bd) ∧ K (.agg #[.int .i64 ((readOrd (GSignature.mk s_symbols) t).code), .slice (some ⟨Bd, 0, some 1⟩) ((readOrd (GSignature.mk s_symbols) t).list).length (((readOrd (GSignature.mk s_symbols) t).list).length + 1)]) (upd H Bd (some ⟨flat ((readOrd (GSignature.mk s_symbols) t).list), true⟩)) (Bd + 1)) := by
  refine propext ⟨fun h => ?_, fun h => ⟨_, _, rfl, h⟩⟩
  obtain ⟨s', t', e, h⟩ := h
  obtain ⟨ssymbols'⟩ := s'
  skip
  simp only [enc_GSignature, List.cons.injEq, Value.agg.injEq, toArr_inj, Value.int.injEq, Value.bool.injEq, Value.string.injEq, Value.slice.injEq, Value.func.injEq, Value.pointer.injEq, Option.some.injEq, Addr.mk.injEq, lst_inj, true_and, and_true] at e
  obtain ⟨rfl, rfl⟩ := e
  exact h
set_option maxHeartbeats 2000000 in
theorem W13_ok : OK 13 W13 := by
  rintro args H Bd K ⟨s, t, rfl, hpre, hK⟩
  refine fn_own pok (((((Env.base _).add 30 _ W30_ok).add 31 _ W31_ok).add 32 _ W32_ok).add 33 _ L33_ok) [] (.agg #[.int .i64 ((readOrd s t).code), .slice (some ⟨Bd, 0, some 1⟩) ((readOrd s t).list).length (((readOrd s t).list).length + 1)]) [flat ((readOrd s t).list)] hK Tryd.func13 rfl (rs := [.cell 4 35]) rfl Tryd.ntmps13 (by simp) Tryd.call13 (by kernel_rfl) (fun cells hc v hv => by simp only [List.mem_cons, List.not_mem_nil, or_false] at hc; rcases hc with rfl <;> exact flat_nb _ _ _ hv) (fun hb ha => ?_)
  obtain ⟨h1, h2, h3, h4⟩ := hpre
  have hss := h1
  by_cases hs : sigF s = 0
  · have hl := cutB_len_le t 44
    have hl2 := readL_len s t
    have hrg := readL_rg hs t
    have hpos := cutB_pos t 44
    simp (maxSteps := 2000000) (disch := first | assumption | (refine asm_intro ?_; assumption) | exact Nat.le_add_right _ _ | exact Nat.le_refl _ | omega | (simp (disch := first | exact Nat.le_add_right _ _ | omega) only [Le_upd hb, Le_app hb, Le_rfl, free_T hb, free_upd]; done) | fail) only [go_sem, push_cast, and_pos, Le_updF, Le_upd hb, free_T hb, h1, hs, h3]
    refine Tr.fin2 17 (by simp (disch := first | assumption | omega) only [free_upd, free_T hb]) (by simp only [go_sem, push_cast, and_pos, Le_updF]; rfl) rfl ?_
    refine tr_acc (α := Int) (H0 := upd (upd H Bd (some ⟨[lst s.symbols], true⟩)) (Bd + 1) (some ⟨[.int .i64 0, .slice none 0 0], true⟩)) (B0 := Bd + 2) (n0 := Bd + 2) ((cutB t 44).length) (fun i => (readL s t).take i) (fun i out => [(2, .pointer (some ⟨Bd, 0, none⟩)), (4, .pointer (some ⟨Bd + 1, 0, none⟩)), (6, out), (17, lst (cutB t 44)), (18, .int .i64 (cutB t 44).length), (19, .int .i64 i)]) (Nat.le_refl 1) ⟨by omega, by omega⟩ (by simp only [go_sem, push_cast, and_pos, Le_updF, List.take_zero]) (by simp (disch := first | assumption | omega) only [go_sem, push_cast, and_pos, Le_updF, flat_nil, List.take_zero]) ?_
    intro i ni ci Bi hii hci hni hmi hBi hbi
    refine vq_conv pok (E := (((((Env.base _).add 30 _ W30_ok).add 31 _ W31_ok).add 32 _ W32_ok).add 33 _ L33_ok)) (PL := []) (by kernel_rfl) ?_
    have hzi : (ci = 0) = False := eq_false (by omega)
    rcases Nat.lt_or_ge i ((cutB t 44).length) with hlti | hgei
    · have e1 : (cutB t 44)[i]? = some (cutB t 44)[i] := List.getElem?_eq_getElem hlti
      have hst := readL_take (s := s) hlti
      have hl3 : ((readL s t).take i).length = i := by simp; omega
      simp (maxSteps := 2000000) (disch := first | assumption | (refine asm_intro ?_; assumption) | exact Nat.le_add_right _ _ | exact Nat.le_refl _ | omega | (simp (disch := first | exact Nat.le_add_right _ _ | omega) only [Le_upd hb, Le_app hb, Le_rfl, free_T hb, free_upd]; done) | fail) only [go_sem, push_cast, and_pos, Le_updF, Le_upd hb, free_T hb, e1, hss, hzi, hst, flat_append, flat_one]
      exact acc_end (by omega) (by omega) (by simp) rfl (by simp (disch := first | assumption | omega | (simp (disch := omega) only [free_upd, free_T hb]; done)) only [Le_upd2, Le_updF, Le_rfl, free_upd, free_T hb])
    · simp (maxSteps := 2000000) (disch := first | assumption | (refine asm_intro ?_; assumption) | exact Nat.le_add_right _ _ | exact Nat.le_refl _ | omega | (simp (disch := first | exact Nat.le_add_right _ _ | omega) only [Le_upd hb, Le_app hb, Le_rfl, free_T hb, free_upd]; done) | fail) only [go_sem, push_cast, and_pos, Le_updF, Le_upd hb, free_T hb]
      refine vq_conv pok (E := (((((Env.base _).add 30 _ W30_ok).add 31 _ W31_ok).add 32 _ W32_ok).add 33 _ L33_ok)) (PL := []) (by kernel_rfl) ?_
      rw [List.take_of_length_le (by omega)]
      have hsm : sm (readL s t) := (sm_ints _).2 (by omega)
      have ef : ordF s (readL s t) = ordG s (readL s t) := by unfold ordF; rw [if_neg (by simp [hs])]
      by_cases ho : ordG s (readL s t) = 0
      · have e : readOrd s t = ⟨0, readL s t⟩ := by unfold readOrd; rw [if_neg (by simp [hs]), if_neg (by simp [ho])]
        simp (maxSteps := 2000000) (disch := first | assumption | (refine asm_intro ?_; assumption) | exact Nat.le_add_right _ _ | exact Nat.le_refl _ | omega | (simp (disch := first | exact Nat.le_add_right _ _ | omega) only [Le_upd hb, Le_app hb, Le_rfl, free_T hb, free_upd]; done) | fail) only [go_sem, push_cast, and_pos, Le_updF, Le_upd hb, free_T hb, hss, hsm, hrg, ef, ho, e]
      · have e : readOrd s t = ⟨5, []⟩ := by unfold readOrd; rw [if_neg (by simp [hs]), if_pos ho]
        simp (maxSteps := 2000000) (disch := first | assumption | (refine asm_intro ?_; assumption) | exact Nat.le_add_right _ _ | exact Nat.le_refl _ | omega | (simp (disch := first | exact Nat.le_add_right _ _ | omega) only [Le_upd hb, Le_app hb, Le_rfl, free_T hb, free_upd]; done) | fail) only [go_sem, push_cast, and_pos, Le_updF, Le_upd hb, free_T hb, hss, hsm, hrg, ef, ho, e, flat_nil]
  · have e : readOrd s t = ⟨sigF s, []⟩ := by unfold readOrd; rw [if_pos hs]
    simp (maxSteps := 2000000) (disch := first | assumption | (refine asm_intro ?_; assumption) | exact Nat.le_add_right _ _ | exact Nat.le_refl _ | omega | (simp (disch := first | exact Nat.le_add_right _ _ | omega) only [Le_upd hb, Le_app hb, Le_rfl, free_T hb, free_upd]; done) | fail) only [go_sem, push_cast, and_pos, Le_updF, Le_upd hb, free_T hb, h1, hs, e, flat_nil]

theorem M13_pure : PureO W13 := by
  rintro args H Bd K ⟨x0, x1, rfl, hpre, hK⟩
  refine ⟨_, [_], ?_, ?_, hK, fun H' K' hs h => ⟨x0, x1, rfl, ⟨hpre.1, hpre.2.1, PT_sees hpre.2.2.1 hs, hpre.2.2.2⟩, h⟩⟩
  · first | exact .sl | (refine vc_agg fun v hv => ?_; simp only [List.mem_cons, List.not_mem_nil, or_false] at hv; (repeat' (rcases hv with rfl | hv)) <;> (try subst hv) <;> constructor)
  · intro c hc; simp only [List.mem_cons, List.not_mem_nil, or_false] at hc; (repeat' (rcases hc with rfl | hc)) <;> (try subst hc) <;> exact vc_flat _
def M13 : Trans := LendO W13
@[go_sem ↓] theorem M13_eq (v0 v1 : Value) (H : AH) (Bd : Nat) (K : Value → AH → Nat → Prop) : M13 [v0, v1] H Bd K = callW W13 (idS [giveA H v0, giveA H v1]) H Bd K := (rfl)
theorem M13_ok : OK 13 M13 := LendO_ok W13_ok M13_pure

def W34 : Trans := fun args H Bd K => ∃ (xs : List Int) (ys : List Int), args = [lst (xs), lst (ys)] ∧ ((sm xs) ∧ K (.bool (decide (xs = ys))) H Bd)
@[go_sem ↓] theorem W34_eq (xs : List Int) (ys : List Int) (H : AH) (Bd : Nat) (K : Value → AH → Nat → Prop) : W34 [lst (xs), lst (ys)] H Bd K = ((sm xs) ∧ K (.bool (decide (xs = ys))) H Bd) := by
  refine propext ⟨fun h => ?_, fun h => ⟨_, _, rfl, h⟩⟩
  obtain ⟨xs', ys', e, h⟩ := h
  skip
  skip
  simp only [List.cons.injEq, Value.agg.injEq, toArr_inj, Value.int.injEq, Value.bool.injEq, Value.string.injEq, Value.slice.injEq, Value.func.injEq, Value.pointer.injEq, Option.some.injEq, Addr.mk.injEq, lst_inj, true_and, and_true] at e
  obtain ⟨rfl, rfl⟩ := e
  exact h
theorem W34_ok : OK 34 W34 := by
  rintro args H Bd K ⟨xs, ys, rfl, hpre, hK⟩
  refine fn_pure pok (Env.base _) [(6, [0,1,2,3,4,5,6,7,8], [⟨0, [], []⟩, ⟨1, [], []⟩, ⟨2, [], []⟩, ⟨3, [], []⟩, ⟨4, [], []⟩, ⟨5, [], []⟩, ⟨6, [], []⟩, ⟨7, [], []⟩, ⟨8, [], []⟩], .nil)] _ hK Tryd.func34 rfl (rs := [.tmp 4]) rfl Tryd.ntmps34 (by simp) Tryd.call34 (by kernel_rfl) (fun ha hb => .bool _) (fun hb ha => ?_)
  have hlen := sm_len hpre
  simp (maxSteps := 2000000) (disch := first | assumption | (refine asm_intro ?_; assumption) | exact Nat.le_add_right _ _ | exact Nat.le_refl _ | omega | (simp (disch := first | exact Nat.le_add_right _ _ | omega) only [Le_upd hb, Le_app hb, Le_rfl, free_T hb, free_upd]; done) | fail) only [go_sem, push_cast, and_pos, Le_updF, Le_upd hb, free_T hb]
  refine Cnp.of (fun hl => ?_) (fun hl => cmp_len (by omega))
  have hl' : xs.length = ys.length := by omega
  refine tr_for (fun i => ∀ j, j < i → xs[j]? = ys[j]?) xs.length (fun i => [(0, lst xs), (1, lst ys), (5, .int .i64 i)]) (fun j h => by omega) (by simp only [go_sem, push_cast, and_pos, Le_updF]) ?_
  intro i B0 hI hi hB
  refine vq_conv pok (E := (Env.base _)) (PL := [(6, [0,1,2,3,4,5,6,7,8], [⟨0, [], []⟩, ⟨1, [], []⟩, ⟨2, [], []⟩, ⟨3, [], []⟩, ⟨4, [], []⟩, ⟨5, [], []⟩, ⟨6, [], []⟩, ⟨7, [], []⟩, ⟨8, [], []⟩], .nil)]) (by kernel_rfl) ?_
  rcases Nat.lt_or_ge i xs.length with hlt | hge
  · have e1 : xs[i]? = some xs[i] := List.getElem?_eq_getElem hlt
    have e2 : ys[i]? = some (ys[i]'(by omega)) := List.getElem?_eq_getElem _
    have hx := sm_mem hpre (List.getElem_mem hlt)
    simp (maxSteps := 2000000) (disch := first | assumption | (refine asm_intro ?_; assumption) | exact Nat.le_add_right _ _ | exact Nat.le_refl _ | omega | (simp (disch := first | exact Nat.le_add_right _ _ | omega) only [Le_upd hb, Le_app hb, Le_rfl, free_T hb, free_upd]; done) | fail) only [go_sem, push_cast, and_pos, Le_updF, Le_upd hb, free_T hb, e1, e2, hx]
    exact cmp_step hl' hI hlt (by omega) rfl fun h => h
  · simp (maxSteps := 2000000) (disch := first | assumption | (refine asm_intro ?_; assumption) | exact Nat.le_add_right _ _ | exact Nat.le_refl _ | omega | (simp (disch := first | exact Nat.le_add_right _ _ | omega) only [Le_upd hb, Le_app hb, Le_rfl, free_T hb, free_upd]; done) | fail) only [go_sem, push_cast, and_pos, Le_updF, Le_upd hb, free_T hb]
    refine vq_conv pok (E := (Env.base _)) (PL := [(6, [0,1,2,3,4,5,6,7,8], [⟨0, [], []⟩, ⟨1, [], []⟩, ⟨2, [], []⟩, ⟨3, [], []⟩, ⟨4, [], []⟩, ⟨5, [], []⟩, ⟨6, [], []⟩, ⟨7, [], []⟩, ⟨8, [], []⟩], .nil)]) (by kernel_rfl) ?_
    simp (maxSteps := 2000000) (disch := first | assumption | (refine asm_intro ?_; assumption) | exact Nat.le_add_right _ _ | exact Nat.le_refl _ | omega | (simp (disch := first | exact Nat.le_add_right _ _ | omega) only [Le_upd hb, Le_app hb, Le_rfl, free_T hb, free_upd]; done) | fail) only [go_sem, push_cast, and_pos, Le_updF, Le_upd hb, free_T hb]
    exact cmp_end hl' hI hge

def W14 : Trans := fun args H Bd K => ∃ (x : GIntsResult) (y : GIntsResult), args = [.agg (enc (x)).toArray, .agg (enc (y)).toArray] ∧ ((sm x) ∧ K (.bool (decide (x = y))) H Bd)
@[go_sem ↓] theorem W14_eq (x_code : Int) (x_list : List Int) (y_code : Int) (y_list : List Int) (H : AH) (Bd : Nat) (K : Value → AH → Nat → Prop) : W14 [.agg #[.int .i64 (x_code), lst (x_list)], .agg #[.int .i64 (y_code), lst (y_list)]] H Bd K = ((sm (GIntsResult.mk x_code x_list)) ∧ K (.bool (decide ((GIntsResult.mk x_code x_list) = (GIntsResult.mk y_code y_list)))) H Bd) := by
  refine propext ⟨fun h => ?_, fun h => ⟨_, _, rfl, h⟩⟩
  obtain ⟨x', y', e, h⟩ := h
  obtain ⟨xcode', xlist'⟩ := x'
  obtain ⟨ycode', ylist'⟩ := y'
  simp only [enc_GIntsResult, List.cons.injEq, Value.agg.injEq, toArr_inj, Value.int.injEq, Value.bool.injEq, Value.string.injEq, Value.slice.injEq, Value.func.injEq, Value.pointer.injEq, Option.some.injEq, Addr.mk.injEq, lst_inj, true_and, and_true] at e
  obtain ⟨⟨rfl, rfl⟩, ⟨rfl, rfl⟩⟩ := e
  exact h
theorem W14_ok : OK 14 W14 := by
  rintro args H Bd K ⟨x, y, rfl, hpre, hK⟩
  refine fn_pure pok ((Env.base _).add 34 _ W34_ok) [] _ hK Tryd.func14 rfl (rs := [.tmp 4]) rfl Tryd.ntmps14 (by simp) Tryd.call14 (by kernel_rfl) (fun ha hb => .bool _) (fun hb ha => ?_)
  simp only [sm_GIntsResult] at hpre
  simp (maxSteps := 2000000) (disch := first | assumption | (refine asm_intro ?_; assumption) | exact Nat.le_add_right _ _ | exact Nat.le_refl _ | omega | (simp (disch := first | exact Nat.le_add_right _ _ | omega) only [Le_upd hb, Le_app hb, Le_rfl, free_T hb, free_upd]; done) | fail) only [go_sem, push_cast, and_pos, Le_updF, Le_upd hb, free_T hb, hpre]
  cases x; cases y
  simp only [Cnp, GIntsResult.mk.injEq]
  constructor <;> intros <;> simp_all

theorem L14_pure : PureV W14 := by
  rintro args H Bd K ⟨x0, x1, rfl, hpre, hK⟩
  exact ⟨_, by first | exact .bool _ | exact .int _ _ | exact .string _, hK, fun H' K' hs h => ⟨x0, x1, rfl, hpre, h⟩⟩
def L14 : Trans := LendA W14
@[go_sem ↓] theorem L14_eq (v0 v1 : Value) (H : AH) (Bd : Nat) (K : Value → AH → Nat → Prop) : L14 [v0, v1] H Bd K = callW W14 (idS [giveA H v0, giveA H v1]) H Bd K := (rfl)
theorem L14_ok : OK 14 L14 := LendA_ok W14_ok L14_pure

def W58 : Trans := fun args H Bd K => ∃ (x : GSymbol) (y : GSymbol), args = [.agg (enc (x)).toArray, .agg (enc (y)).toArray] ∧ ((sm x) ∧ K (.bool (decide (x = y))) H Bd)
@[go_sem ↓] theorem W58_eq (x_name : ByteArray) (x_arity : Int) (y_name : ByteArray) (y_arity : Int) (H : AH) (Bd : Nat) (K : Value → AH → Nat → Prop) : W58 [.agg #[.string (x_name), .int .i64 (x_arity)], .agg #[.string (y_name), .int .i64 (y_arity)]] H Bd K = ((sm (GSymbol.mk x_name x_arity)) ∧ K (.bool (decide ((GSymbol.mk x_name x_arity) = (GSymbol.mk y_name y_arity)))) H Bd) := by
  refine propext ⟨fun h => ?_, fun h => ⟨_, _, rfl, h⟩⟩
  obtain ⟨x', y', e, h⟩ := h
  obtain ⟨xname', xarity'⟩ := x'
  obtain ⟨yname', yarity'⟩ := y'
  simp only [enc_GSymbol, List.cons.injEq, Value.agg.injEq, toArr_inj, Value.int.injEq, Value.bool.injEq, Value.string.injEq, Value.slice.injEq, Value.func.injEq, Value.pointer.injEq, Option.some.injEq, Addr.mk.injEq, lst_inj, true_and, and_true] at e
  obtain ⟨⟨rfl, rfl⟩, ⟨rfl, rfl⟩⟩ := e
  exact h
theorem W58_ok : OK 58 W58 := by
  rintro args H Bd K ⟨x, y, rfl, hpre, hK⟩
  refine fn_pure pok (Env.base _) [] _ hK Tryd.func58 rfl (rs := [.tmp 4]) rfl Tryd.ntmps58 (by simp) Tryd.call58 (by kernel_rfl) (fun ha hb => .bool _) (fun hb ha => ?_)
  simp only [sm_GSymbol] at hpre
  simp (maxSteps := 2000000) (disch := first | assumption | (refine asm_intro ?_; assumption) | exact Nat.le_add_right _ _ | exact Nat.le_refl _ | omega | (simp (disch := first | exact Nat.le_add_right _ _ | omega) only [Le_upd hb, Le_app hb, Le_rfl, free_T hb, free_upd]; done) | fail) only [go_sem, push_cast, and_pos, Le_updF, Le_upd hb, free_T hb, hpre]
  cases x; cases y
  simp only [Cnp, GSymbol.mk.injEq]
  constructor <;> intros <;> simp_all

def W35 : Trans := fun args H Bd K => ∃ (xs : List GSymbol) (ys : List GSymbol), args = [lst (xs), lst (ys)] ∧ ((sm xs) ∧ K (.bool (decide (xs = ys))) H Bd)
@[go_sem ↓] theorem W35_eq (xs : List GSymbol) (ys : List GSymbol) (H : AH) (Bd : Nat) (K : Value → AH → Nat → Prop) : W35 [lst (xs), lst (ys)] H Bd K = ((sm xs) ∧ K (.bool (decide (xs = ys))) H Bd) := by
  refine propext ⟨fun h => ?_, fun h => ⟨_, _, rfl, h⟩⟩
  obtain ⟨xs', ys', e, h⟩ := h
  skip
  skip
  simp only [List.cons.injEq, Value.agg.injEq, toArr_inj, Value.int.injEq, Value.bool.injEq, Value.string.injEq, Value.slice.injEq, Value.func.injEq, Value.pointer.injEq, Option.some.injEq, Addr.mk.injEq, lst_inj, true_and, and_true] at e
  obtain ⟨rfl, rfl⟩ := e
  exact h
theorem W35_ok : OK 35 W35 := by
  rintro args H Bd K ⟨xs, ys, rfl, hpre, hK⟩
  refine fn_pure pok ((Env.base _).add 58 _ W58_ok) [(6, [0,1,2,3,4,5,6,7,8,9], [⟨0, [], []⟩, ⟨1, [], []⟩, ⟨2, [], []⟩, ⟨3, [], []⟩, ⟨4, [], []⟩, ⟨5, [], []⟩, ⟨6, [], []⟩, ⟨7, [], []⟩, ⟨8, [], []⟩, ⟨9, [], []⟩], .nil)] _ hK Tryd.func35 rfl (rs := [.tmp 4]) rfl Tryd.ntmps35 (by simp) Tryd.call35 (by kernel_rfl) (fun ha hb => .bool _) (fun hb ha => ?_)
  have hlen := sm_len hpre
  simp (maxSteps := 2000000) (disch := first | assumption | (refine asm_intro ?_; assumption) | exact Nat.le_add_right _ _ | exact Nat.le_refl _ | omega | (simp (disch := first | exact Nat.le_add_right _ _ | omega) only [Le_upd hb, Le_app hb, Le_rfl, free_T hb, free_upd]; done) | fail) only [go_sem, push_cast, and_pos, Le_updF, Le_upd hb, free_T hb]
  refine Cnp.of (fun hl => ?_) (fun hl => cmp_len (by omega))
  have hl' : xs.length = ys.length := by omega
  refine tr_for (fun i => ∀ j, j < i → xs[j]? = ys[j]?) xs.length (fun i => [(0, lst xs), (1, lst ys), (5, .int .i64 i)]) (fun j h => by omega) (by simp only [go_sem, push_cast, and_pos, Le_updF]) ?_
  intro i B0 hI hi hB
  refine vq_conv pok (E := ((Env.base _).add 58 _ W58_ok)) (PL := [(6, [0,1,2,3,4,5,6,7,8,9], [⟨0, [], []⟩, ⟨1, [], []⟩, ⟨2, [], []⟩, ⟨3, [], []⟩, ⟨4, [], []⟩, ⟨5, [], []⟩, ⟨6, [], []⟩, ⟨7, [], []⟩, ⟨8, [], []⟩, ⟨9, [], []⟩], .nil)]) (by kernel_rfl) ?_
  rcases Nat.lt_or_ge i xs.length with hlt | hge
  · have e1 : xs[i]? = some xs[i] := List.getElem?_eq_getElem hlt
    have e2 : ys[i]? = some (ys[i]'(by omega)) := List.getElem?_eq_getElem _
    have hx := sm_mem hpre (List.getElem_mem hlt)
    simp (maxSteps := 2000000) (disch := first | assumption | (refine asm_intro ?_; assumption) | exact Nat.le_add_right _ _ | exact Nat.le_refl _ | omega | (simp (disch := first | exact Nat.le_add_right _ _ | omega) only [Le_upd hb, Le_app hb, Le_rfl, free_T hb, free_upd]; done) | fail) only [go_sem, push_cast, and_pos, Le_updF, Le_upd hb, free_T hb, e1, e2, hx]
    exact cmp_step hl' hI hlt (by omega) rfl fun h => h
  · simp (maxSteps := 2000000) (disch := first | assumption | (refine asm_intro ?_; assumption) | exact Nat.le_add_right _ _ | exact Nat.le_refl _ | omega | (simp (disch := first | exact Nat.le_add_right _ _ | omega) only [Le_upd hb, Le_app hb, Le_rfl, free_T hb, free_upd]; done) | fail) only [go_sem, push_cast, and_pos, Le_updF, Le_upd hb, free_T hb]
    refine vq_conv pok (E := ((Env.base _).add 58 _ W58_ok)) (PL := [(6, [0,1,2,3,4,5,6,7,8,9], [⟨0, [], []⟩, ⟨1, [], []⟩, ⟨2, [], []⟩, ⟨3, [], []⟩, ⟨4, [], []⟩, ⟨5, [], []⟩, ⟨6, [], []⟩, ⟨7, [], []⟩, ⟨8, [], []⟩, ⟨9, [], []⟩], .nil)]) (by kernel_rfl) ?_
    simp (maxSteps := 2000000) (disch := first | assumption | (refine asm_intro ?_; assumption) | exact Nat.le_add_right _ _ | exact Nat.le_refl _ | omega | (simp (disch := first | exact Nat.le_add_right _ _ | omega) only [Le_upd hb, Le_app hb, Le_rfl, free_T hb, free_upd]; done) | fail) only [go_sem, push_cast, and_pos, Le_updF, Le_upd hb, free_T hb]
    exact cmp_end hl' hI hge

def W15 : Trans := fun args H Bd K => ∃ (x : GSignature) (y : GSignature), args = [.agg (enc (x)).toArray, .agg (enc (y)).toArray] ∧ ((sm x) ∧ K (.bool (decide (x = y))) H Bd)
@[go_sem ↓] theorem W15_eq (x_symbols : List GSymbol) (y_symbols : List GSymbol) (H : AH) (Bd : Nat) (K : Value → AH → Nat → Prop) : W15 [.agg #[lst (x_symbols)], .agg #[lst (y_symbols)]] H Bd K = ((sm (GSignature.mk x_symbols)) ∧ K (.bool (decide ((GSignature.mk x_symbols) = (GSignature.mk y_symbols)))) H Bd) := by
  refine propext ⟨fun h => ?_, fun h => ⟨_, _, rfl, h⟩⟩
  obtain ⟨x', y', e, h⟩ := h
  obtain ⟨xsymbols'⟩ := x'
  obtain ⟨ysymbols'⟩ := y'
  simp only [enc_GSignature, List.cons.injEq, Value.agg.injEq, toArr_inj, Value.int.injEq, Value.bool.injEq, Value.string.injEq, Value.slice.injEq, Value.func.injEq, Value.pointer.injEq, Option.some.injEq, Addr.mk.injEq, lst_inj, true_and, and_true] at e
  obtain ⟨rfl, rfl⟩ := e
  exact h
theorem W15_ok : OK 15 W15 := by
  rintro args H Bd K ⟨x, y, rfl, hpre, hK⟩
  refine fn_pure pok ((Env.base _).add 35 _ W35_ok) [] _ hK Tryd.func15 rfl (rs := [.tmp 4]) rfl Tryd.ntmps15 (by simp) Tryd.call15 (by kernel_rfl) (fun ha hb => .bool _) (fun hb ha => ?_)
  simp only [sm_GSignature] at hpre
  simp (maxSteps := 2000000) (disch := first | assumption | (refine asm_intro ?_; assumption) | exact Nat.le_add_right _ _ | exact Nat.le_refl _ | omega | (simp (disch := first | exact Nat.le_add_right _ _ | omega) only [Le_upd hb, Le_app hb, Le_rfl, free_T hb, free_upd]; done) | fail) only [go_sem, push_cast, and_pos, Le_updF, Le_upd hb, free_T hb, hpre]
  cases x; cases y
  simp only [Cnp, GSignature.mk.injEq]
  constructor <;> intros <;> simp_all

theorem L15_pure : PureV W15 := by
  rintro args H Bd K ⟨x0, x1, rfl, hpre, hK⟩
  exact ⟨_, by first | exact .bool _ | exact .int _ _ | exact .string _, hK, fun H' K' hs h => ⟨x0, x1, rfl, hpre, h⟩⟩
def L15 : Trans := LendA W15
@[go_sem ↓] theorem L15_eq (v0 v1 : Value) (H : AH) (Bd : Nat) (K : Value → AH → Nat → Prop) : L15 [v0, v1] H Bd K = callW W15 (idS [giveA H v0, giveA H v1]) H Bd K := (rfl)
theorem L15_ok : OK 15 L15 := LendA_ok W15_ok L15_pure

def W41 : Trans := fun args H Bd K => ∃ (k : Int), args = [.int .i64 (k)] ∧ ((k ≤ 4611686018427387904) ∧ K (.string (mtext k)) H Bd)
@[go_sem ↓] theorem W41_eq (k : Int) (H : AH) (Bd : Nat) (K : Value → AH → Nat → Prop) : W41 [.int .i64 (k)] H Bd K = ((k ≤ 4611686018427387904) ∧ K (.string (mtext k)) H Bd) := by
  refine propext ⟨fun h => ?_, fun h => ⟨_, rfl, h⟩⟩
  obtain ⟨k', e, h⟩ := h
  skip
  simp only [List.cons.injEq, Value.agg.injEq, toArr_inj, Value.int.injEq, Value.bool.injEq, Value.string.injEq, Value.slice.injEq, Value.func.injEq, Value.pointer.injEq, Option.some.injEq, Addr.mk.injEq, lst_inj, true_and, and_true] at e
  obtain rfl := e
  exact h
theorem W41_ok : OK 41 W41 := by
  rintro args H Bd K ⟨k, rfl, hpre, hK⟩
  refine fn_pure pok (Env.base _) [] _ hK Tryd.func41 rfl (rs := [.tmp 2]) rfl Tryd.ntmps41 (by simp) Tryd.call41 (by kernel_rfl) (fun ha hb => .string _) (fun hb ha => ?_)
  by_cases hk : k ≤ 0
  · have hm : mtext k = ⟨#[109, 48]⟩ := by unfold mtext; rw [if_pos hk]
    simp (maxSteps := 2000000) (disch := first | assumption | (refine asm_intro ?_; assumption) | exact Nat.le_add_right _ _ | exact Nat.le_refl _ | omega | (simp (disch := first | exact Nat.le_add_right _ _ | omega) only [Le_upd hb, Le_app hb, Le_rfl, free_T hb, free_upd]; done) | fail) only [go_sem, push_cast, and_pos, Le_updF, Le_upd hb, free_T hb, hk, hm]
  obtain ⟨k, rfl⟩ := Int.eq_ofNat_of_zero_le (show 0 ≤ k by omega)
  have hm : mtext (k : Int) = ⟨#[109]⟩ ++ mtD 64 k ⟨#[]⟩ := by unfold mtext; rw [if_neg hk, Int.toNat_natCast]
  simp (maxSteps := 2000000) (disch := first | assumption | (refine asm_intro ?_; assumption) | exact Nat.le_add_right _ _ | exact Nat.le_refl _ | omega | (simp (disch := first | exact Nat.le_add_right _ _ | omega) only [Le_upd hb, Le_app hb, Le_rfl, free_T hb, free_upd]; done) | fail) only [go_sem, push_cast, and_pos, Le_updF, Le_upd hb, free_T hb, hk, hm]
  refine tr_st (X := Nat × Nat × ByteArray) (fun x => mtD x.1 x.2.1 x.2.2 = mtD 64 k ⟨#[]⟩ ∧ x.2.1 < 10 ^ x.1 ∧ x.2.1 ≤ k ∧ x.2.2.size + x.1 ≤ 64) (fun x => x.2.1) (fun x => [(0, .int .i64 (x.2.1 : Nat)), (3, .string x.2.2)]) (fun x => H) (64, k, ⟨#[]⟩) (⟨rfl, show k < 10 ^ 64 by omega, Nat.le_refl _, Nat.le_refl _⟩) (by simp only [go_sem, push_cast, and_pos, Le_updF]; all_goals (try simp only [Value.int.injEq, Value.slice.injEq, true_and, and_true]) <;> all_goals (try (first | trivial | omega | grind))) (by first | exact Le.refl _ | simp (disch := first | assumption | omega) only [go_sem, push_cast, and_pos, Le_updF, Le_rfl, Le_upd2]) ?_
  intro x Bx hIx hBx hbx Fx hFx
  refine vq_conv pok (E := (Env.base _)) (PL := []) (by kernel_rfl) ?_
  obtain ⟨f, j, out⟩ := x
  obtain ⟨q1, q2, q3, q4⟩ := hIx
  simp only at q1 q2 q3 q4
  by_cases hj : j = 0
  · subst hj
    simp (maxSteps := 2000000) (disch := first | assumption | (refine asm_intro ?_; assumption) | exact Nat.le_add_right _ _ | exact Nat.le_refl _ | omega | (simp (disch := first | exact Nat.le_add_right _ _ | omega) only [Le_upd hb, Le_app hb, Le_rfl, free_T hb, free_upd]; done) | fail) only [go_sem, push_cast, and_pos, Le_updF, Le_upd hb, free_T hb]
    refine vq_conv pok (E := (Env.base _)) (PL := []) (by kernel_rfl) ?_
    have e1 : mtD f 0 out = out := by cases f <;> simp [mtD]
    rw [e1] at q1
    have hs : (mtD 64 k ⟨#[]⟩).size ≤ 64 := by rw [← q1]; omega
    simp (maxSteps := 2000000) (disch := first | assumption | (refine asm_intro ?_; assumption) | exact Nat.le_add_right _ _ | exact Nat.le_refl _ | omega | (simp (disch := first | exact Nat.le_add_right _ _ | omega) only [Le_upd hb, Le_app hb, Le_rfl, free_T hb, free_upd]; done) | fail) only [go_sem, push_cast, and_pos, Le_updF, Le_upd hb, free_T hb, q1, List.size_toArray, List.length_cons, List.length_nil]
  · have t1 : ((j : Nat) : Int).tmod 10 = ((j % 10 : Nat) : Int) := rfl
    have t2 : ((j : Nat) : Int).tdiv 10 = ((j / 10 : Nat) : Int) := rfl
    have t3 : j % 10 < 10 := Nat.mod_lt _ (by decide)
    have hsz : 1 + out.size ≤ 9223372036854775807 := by omega
    simp (maxSteps := 2000000) (disch := first | assumption | (refine asm_intro ?_; assumption) | exact Nat.le_add_right _ _ | exact Nat.le_refl _ | omega | (simp (disch := first | exact Nat.le_add_right _ _ | omega) only [Le_upd hb, Le_app hb, Le_rfl, free_T hb, free_upd]; done) | fail) only [go_sem, push_cast, and_pos, Le_updF, Le_upd hb, free_T hb, hj, t1, t2, List.size_toArray, List.length_cons, List.length_nil]
    refine hFx (f - 1, j / 10, oneB ((48 + (j : Int) % 10) % 256) ++ out) _ _ _ ?_ ?_ (by first | exact Le.refl _ | simp (disch := first | assumption | omega | (simp (disch := omega) only [free_upd, free_T hb]; done)) only [go_sem, push_cast, and_pos, Le_updF, Le_rfl, Le_upd2, free_upd, free_T hb]) (by simp only [go_sem, push_cast, and_pos, Le_updF]) (by simp only [go_sem, push_cast, and_pos, Le_updF]; all_goals (try simp only [Value.int.injEq, Value.slice.injEq, true_and, and_true]) <;> all_goals (try (first | trivial | omega | grind)))
    · show j / 10 < j
      omega
    · obtain ⟨f, rfl⟩ : ∃ f', f = f' + 1 := ⟨f - 1, by
        rcases Nat.eq_zero_or_pos f with h | h
        · subst h; rw [Nat.pow_zero] at q2; omega
        · omega⟩
      rw [mtD, if_neg hj] at q1
      refine ⟨q1, ?_, show j / 10 ≤ k by omega, ?_⟩
      · rw [Nat.pow_succ] at q2
        exact Nat.div_lt_of_lt_mul (by rw [Nat.mul_comm]; exact q2)
      · show (oneB _ ++ out).size + f ≤ 64
        rw [ByteArray.size_append, show (oneB ((48 + (j : Int) % 10) % 256)).size = 1 from rfl]
        omega

def W36 : Trans := fun args H Bd K => ∃ (q : Int) (n : Nat) (l : Nat) (c : Nat), args = [.slice (some ⟨n, 0, some 2⟩) l c, .int .i64 (q)] ∧ (Yld (H n) fun b0 => (b0.own = true ∧ b0.cells.length = l * 2 ∧ 0 ≤ q ∧ q + (l * 2 : Nat) ≤ 4611686018427387904 ∧ l ≤ 281474976710656) ∧ K (.int .i64 (q + (l * 2 : Nat))) (upd H n (some ⟨flat (mkL GSymbol q l), true⟩)) Bd)
@[go_sem ↓] theorem W36_eq (n : Nat) (l : Nat) (c : Nat) (q : Int) (H : AH) (Bd : Nat) (K : Value → AH → Nat → Prop) : W36 [.slice (some ⟨n, 0, some 2⟩) l c, .int .i64 (q)] H Bd K = (Yld (H n) fun b0 => (b0.own = true ∧ b0.cells.length = l * 2 ∧ 0 ≤ q ∧ q + (l * 2 : Nat) ≤ 4611686018427387904 ∧ l ≤ 281474976710656) ∧ K (.int .i64 (q + (l * 2 : Nat))) (upd H n (some ⟨flat (mkL GSymbol q l), true⟩)) Bd) := by
  refine propext ⟨fun h => ?_, fun h => ⟨_, _, _, _, rfl, h⟩⟩
  obtain ⟨q', n', l', c', e, h⟩ := h
  skip
  simp only [List.cons.injEq, Value.agg.injEq, toArr_inj, Value.int.injEq, Value.bool.injEq, Value.string.injEq, Value.slice.injEq, Value.func.injEq, Value.pointer.injEq, Option.some.injEq, Addr.mk.injEq, lst_inj, true_and, and_true, and_assoc] at e
  obtain ⟨rfl, rfl, rfl, rfl⟩ := e
  exact h
set_option maxHeartbeats 2000000 in
theorem W36_ok : OK 36 W36 := by
  rintro args H Bd K ⟨q, n, l, c, rfl, ⟨cells, ow⟩, hb0, ⟨ho, hc, h1, h2, h3⟩, hK⟩
  simp only at ho hc
  subst ho
  refine fn_set pok ((Env.base _).add 41 _ W41_ok) [] _ hK (fun hh => hb_setF hh hb0 _) Tryd.func36 rfl (rs := [.tmp 4]) rfl Tryd.ntmps36 (by simp) Tryd.call36 (by kernel_rfl) (fun ha hb => .int _ _) (fun hb ha => ?_)
  have hLe := le_own hb0
  simp (maxSteps := 2000000) (disch := first | assumption | (refine asm_intro ?_; assumption) | exact Nat.le_add_right _ _ | exact Nat.le_refl _ | omega | (simp (disch := first | exact Nat.le_add_right _ _ | omega) only [Le_upd hb, Le_app hb, Le_rfl, free_T hb, free_upd]; done) | fail) only [go_sem, push_cast, and_pos, Le_updF, Le_upd hb, free_T hb, hb0]
  refine tr_st (X := Nat) (fun i => i ≤ l) (fun i => l - i) (fun i => [(0, .slice (some ⟨n, 0, some 2⟩) l c), (1, .int .i64 (q + (i * 2 : Nat))), (5, .int .i64 i)]) (fun i => upd H n (some ⟨mkC GSymbol q i cells, true⟩)) 0 (Nat.zero_le _) (by simp only [go_sem, push_cast, and_pos, Le_updF, mkC_zero, hLe, Nat.zero_mul, Int.natCast_zero, Int.add_zero]; all_goals (try simp only [Value.int.injEq, Value.slice.injEq, true_and, and_true]) <;> all_goals (try (first | trivial | omega | grind))) (by first | exact Le.refl _ | simp (disch := first | assumption | omega) only [go_sem, push_cast, and_pos, Le_updF, Le_rfl, Le_upd2, mkC_zero, hLe, Nat.zero_mul, Int.natCast_zero, Int.add_zero]) ?_
  intro i Bi hIi hBi hbi Fi hFi
  refine vq_conv pok (E := ((Env.base _).add 41 _ W41_ok)) (PL := []) (by kernel_rfl) ?_
  rcases Nat.lt_or_ge i l with hlt | hge
  · have hset : ((mkC GSymbol q i cells).set (i * 2) (.string (mtext (q + (i : Int) * 2)))).set (i * 2 + 1) (.int .i64 (q + (i : Int) * 2 + 1)) = mkC GSymbol q (i + 1) cells := mkC_set2 (n := l) q cells hc hlt rfl
    have hln : (mkC GSymbol q i cells).length = cells.length := mkC_len q i cells (by rw [hc]; exact Nat.mul_le_mul_right _ hIi)
    simp (maxSteps := 2000000) (disch := first | assumption | (refine asm_intro ?_; assumption) | exact Nat.le_add_right _ _ | exact Nat.le_refl _ | omega | (simp (disch := first | exact Nat.le_add_right _ _ | omega) only [Le_upd hb, Le_app hb, Le_rfl, free_T hb, free_upd]; done) | fail) only [go_sem, push_cast, and_pos, Le_updF, Le_upd hb, free_T hb, hset, hln, List.length_set]
    refine hFi (i + 1) _ _ _ ?_ ?_ (by first | exact Le.refl _ | simp (disch := first | assumption | omega | (simp (disch := omega) only [free_upd, free_T hb]; done)) only [go_sem, push_cast, and_pos, Le_updF, Le_rfl, Le_upd2, free_upd, free_T hb, hset]) (by simp only [go_sem, push_cast, and_pos, Le_updF]) (by simp only [go_sem, push_cast, and_pos, Le_updF, hset]; all_goals (try simp only [Value.int.injEq, Value.slice.injEq, true_and, and_true]) <;> all_goals (try (first | trivial | omega | grind)))
    all_goals omega
  · simp (maxSteps := 2000000) (disch := first | assumption | (refine asm_intro ?_; assumption) | exact Nat.le_add_right _ _ | exact Nat.le_refl _ | omega | (simp (disch := first | exact Nat.le_add_right _ _ | omega) only [Le_upd hb, Le_app hb, Le_rfl, free_T hb, free_upd]; done) | fail) only [go_sem, push_cast, and_pos, Le_updF, Le_upd hb, free_T hb]
    obtain rfl : i = l := by omega
    rw [mkC_end q cells hc]
    refine vq_conv pok (E := ((Env.base _).add 41 _ W41_ok)) (PL := []) (by kernel_rfl) ?_
    simp (maxSteps := 2000000) (disch := first | assumption | (refine asm_intro ?_; assumption) | exact Nat.le_add_right _ _ | exact Nat.le_refl _ | omega | (simp (disch := first | exact Nat.le_add_right _ _ | omega) only [Le_upd hb, Le_app hb, Le_rfl, free_T hb, free_upd]; done) | fail) only [go_sem, push_cast, and_pos, Le_updF, Le_upd hb, free_T hb]

def W16 : Trans := fun args H Bd K => ∃ (q : Int) (n0 : Nat) (l0 : Nat) (c0 : Nat), args = [.agg #[.slice (some ⟨n0, 0, some 2⟩) l0 c0], .int .i64 (q)] ∧ (Yld (H n0) fun b0 => ((b0.own = true ∧ b0.cells.length = l0 * 2 ∧ l0 ≤ 281474976710656) ∧ 0 ≤ q ∧ q + (l0 * 2 : Nat) ≤ 4611686018427387904) ∧ K (.int .i64 (q + (l0 * 2 : Nat))) (upd H n0 (some ⟨flat (mkL GSymbol (q) l0), true⟩)) Bd)
@[go_sem ↓] theorem W16_eq (n0 : Nat) (l0 : Nat) (c0 : Nat) (q : Int) (H : AH) (Bd : Nat) (K : Value → AH → Nat → Prop) : W16 [.agg #[.slice (some ⟨n0, 0, some 2⟩) l0 c0], .int .i64 (q)] H Bd K = (Yld (H n0) fun b0 => ((b0.own = true ∧ b0.cells.length = l0 * 2 ∧ l0 ≤ 281474976710656) ∧ 0 ≤ q ∧ q + (l0 * 2 : Nat) ≤ 4611686018427387904) ∧ K (.int .i64 (q + (l0 * 2 : Nat))) (upd H n0 (some ⟨flat (mkL GSymbol (q) l0), true⟩)) Bd) := by
  refine propext ⟨fun h => ?_, fun h => ⟨_, _, _, _, rfl, h⟩⟩
  obtain ⟨q', n0', l0', c0', e, h⟩ := h
  skip
  simp only [List.cons.injEq, Value.agg.injEq, toArr_inj, Value.int.injEq, Value.bool.injEq, Value.string.injEq, Value.slice.injEq, Value.func.injEq, Value.pointer.injEq, Option.some.injEq, Addr.mk.injEq, lst_inj, true_and, and_true, and_assoc] at e
  obtain ⟨rfl, rfl, rfl, rfl⟩ := e
  exact h
theorem W16_ok : OK 16 W16 := by
  rintro args H Bd K ⟨q, n0, l0, c0, rfl, b0, hb0, ⟨hc0, h1, h2⟩, hK⟩
  refine fn_set pok ((Env.base _).add 36 _ W36_ok) [] _ hK (fun hh => (hb_setF hh hb0 _)) Tryd.func16 rfl (rs := [.tmp 4]) rfl Tryd.ntmps16 (by simp) Tryd.call16 (by kernel_rfl) (fun ha hb => .int _ _) (fun hb ha => ?_)
  have hc0_0 := hc0.1
  have hc0_1 := hc0.2.1
  have hc0_2 := hc0.2.2
  have hn0 := hb_in hb hb0
  simp (maxSteps := 2000000) (disch := first | assumption | (refine asm_intro ?_; assumption) | exact Nat.le_add_right _ _ | exact Nat.le_refl _ | omega | (simp (disch := first | exact Nat.le_add_right _ _ | omega) only [Le_upd hb, Le_app hb, Le_rfl, free_T hb, free_upd]; done) | fail) only [go_sem, push_cast, and_pos, Le_updF, Le_upd hb, free_T hb, hb0, hc0_0, hc0_1]
  repeat refine Le_mark ?_
  simp (disch := first | omega | exact Nat.le_refl _) only [Le_upd hb, Le_rfl]

def W37 : Trans := fun args H Bd K => ∃ (q : Int) (n : Nat) (l : Nat) (c : Nat), args = [.slice (some ⟨n, 0, some 1⟩) l c, .int .i64 (q)] ∧ (Yld (H n) fun b0 => (b0.own = true ∧ b0.cells.length = l * 1 ∧ 0 ≤ q ∧ q + (l * 1 : Nat) ≤ 4611686018427387904 ∧ l ≤ 281474976710656) ∧ K (.int .i64 (q + (l * 1 : Nat))) (upd H n (some ⟨flat (mkL Int q l), true⟩)) Bd)
@[go_sem ↓] theorem W37_eq (n : Nat) (l : Nat) (c : Nat) (q : Int) (H : AH) (Bd : Nat) (K : Value → AH → Nat → Prop) : W37 [.slice (some ⟨n, 0, some 1⟩) l c, .int .i64 (q)] H Bd K = (Yld (H n) fun b0 => (b0.own = true ∧ b0.cells.length = l * 1 ∧ 0 ≤ q ∧ q + (l * 1 : Nat) ≤ 4611686018427387904 ∧ l ≤ 281474976710656) ∧ K (.int .i64 (q + (l * 1 : Nat))) (upd H n (some ⟨flat (mkL Int q l), true⟩)) Bd) := by
  refine propext ⟨fun h => ?_, fun h => ⟨_, _, _, _, rfl, h⟩⟩
  obtain ⟨q', n', l', c', e, h⟩ := h
  skip
  simp only [List.cons.injEq, Value.agg.injEq, toArr_inj, Value.int.injEq, Value.bool.injEq, Value.string.injEq, Value.slice.injEq, Value.func.injEq, Value.pointer.injEq, Option.some.injEq, Addr.mk.injEq, lst_inj, true_and, and_true, and_assoc] at e
  obtain ⟨rfl, rfl, rfl, rfl⟩ := e
  exact h
theorem W37_ok : OK 37 W37 := by
  rintro args H Bd K ⟨q, n, l, c, rfl, ⟨cells, ow⟩, hb0, ⟨ho, hc, h1, h2, h3⟩, hK⟩
  simp only at ho hc
  subst ho
  refine fn_set pok (Env.base _) [] _ hK (fun hh => hb_setF hh hb0 _) Tryd.func37 rfl (rs := [.tmp 4]) rfl Tryd.ntmps37 (by simp) Tryd.call37 (by kernel_rfl) (fun ha hb => .int _ _) (fun hb ha => ?_)
  have hLe := le_own hb0
  simp (maxSteps := 2000000) (disch := first | assumption | (refine asm_intro ?_; assumption) | exact Nat.le_add_right _ _ | exact Nat.le_refl _ | omega | (simp (disch := first | exact Nat.le_add_right _ _ | omega) only [Le_upd hb, Le_app hb, Le_rfl, free_T hb, free_upd]; done) | fail) only [go_sem, push_cast, and_pos, Le_updF, Le_upd hb, free_T hb, hb0]
  refine tr_st (X := Nat) (fun i => i ≤ l) (fun i => l - i) (fun i => [(0, .slice (some ⟨n, 0, some 1⟩) l c), (1, .int .i64 (q + (i * 1 : Nat))), (5, .int .i64 i)]) (fun i => upd H n (some ⟨mkC Int q i cells, true⟩)) 0 (Nat.zero_le _) (by simp only [go_sem, push_cast, and_pos, Le_updF, mkC_zero, hLe, Nat.zero_mul, Int.natCast_zero, Int.add_zero]; all_goals (try simp only [Value.int.injEq, Value.slice.injEq, true_and, and_true]) <;> all_goals (try (first | trivial | omega | grind))) (by first | exact Le.refl _ | simp (disch := first | assumption | omega) only [go_sem, push_cast, and_pos, Le_updF, Le_rfl, Le_upd2, mkC_zero, hLe, Nat.zero_mul, Int.natCast_zero, Int.add_zero]) ?_
  intro i Bi hIi hBi hbi Fi hFi
  refine vq_conv pok (E := (Env.base _)) (PL := []) (by kernel_rfl) ?_
  rcases Nat.lt_or_ge i l with hlt | hge
  · have hset : (mkC Int q i cells).set i (.int .i64 (q + (i : Nat))) = mkC Int q (i + 1) cells := mkC_set1 (n := l) q cells hc hlt (by rw [Nat.mul_one]; rfl)
    have hln : (mkC Int q i cells).length = cells.length := mkC_len q i cells (by rw [hc]; exact Nat.mul_le_mul_right _ hIi)
    simp (maxSteps := 2000000) (disch := first | assumption | (refine asm_intro ?_; assumption) | exact Nat.le_add_right _ _ | exact Nat.le_refl _ | omega | (simp (disch := first | exact Nat.le_add_right _ _ | omega) only [Le_upd hb, Le_app hb, Le_rfl, free_T hb, free_upd]; done) | fail) only [go_sem, push_cast, and_pos, Le_updF, Le_upd hb, free_T hb, hset, hln]
    refine hFi (i + 1) _ _ _ ?_ ?_ (by first | exact Le.refl _ | simp (disch := first | assumption | omega | (simp (disch := omega) only [free_upd, free_T hb]; done)) only [go_sem, push_cast, and_pos, Le_updF, Le_rfl, Le_upd2, free_upd, free_T hb, hset]) (by simp only [go_sem, push_cast, and_pos, Le_updF]) (by simp only [go_sem, push_cast, and_pos, Le_updF, hset]; all_goals (try simp only [Value.int.injEq, Value.slice.injEq, true_and, and_true]) <;> all_goals (try (first | trivial | omega | grind)))
    all_goals omega
  · simp (maxSteps := 2000000) (disch := first | assumption | (refine asm_intro ?_; assumption) | exact Nat.le_add_right _ _ | exact Nat.le_refl _ | omega | (simp (disch := first | exact Nat.le_add_right _ _ | omega) only [Le_upd hb, Le_app hb, Le_rfl, free_T hb, free_upd]; done) | fail) only [go_sem, push_cast, and_pos, Le_updF, Le_upd hb, free_T hb]
    obtain rfl : i = l := by omega
    rw [mkC_end q cells hc]
    refine vq_conv pok (E := (Env.base _)) (PL := []) (by kernel_rfl) ?_
    simp (maxSteps := 2000000) (disch := first | assumption | (refine asm_intro ?_; assumption) | exact Nat.le_add_right _ _ | exact Nat.le_refl _ | omega | (simp (disch := first | exact Nat.le_add_right _ _ | omega) only [Le_upd hb, Le_app hb, Le_rfl, free_T hb, free_upd]; done) | fail) only [go_sem, push_cast, and_pos, Le_updF, Le_upd hb, free_T hb]

def W17 : Trans := fun args H Bd K => ∃ (q : Int) (s0 : Int) (n0 : Nat) (l0 : Nat) (c0 : Nat), args = [.agg #[.int .i64 (s0), .slice (some ⟨n0, 0, some 1⟩) l0 c0], .int .i64 (q)] ∧ (Yld (H n0) fun b0 => ((b0.own = true ∧ b0.cells.length = l0 * 1 ∧ l0 ≤ 281474976710656) ∧ 0 ≤ q ∧ q + (l0 * 1 : Nat) ≤ 4611686018427387904) ∧ K (.int .i64 (q + (l0 * 1 : Nat))) (upd H n0 (some ⟨flat (mkL Int (q) l0), true⟩)) Bd)
@[go_sem ↓] theorem W17_eq (s0 : Int) (n0 : Nat) (l0 : Nat) (c0 : Nat) (q : Int) (H : AH) (Bd : Nat) (K : Value → AH → Nat → Prop) : W17 [.agg #[.int .i64 (s0), .slice (some ⟨n0, 0, some 1⟩) l0 c0], .int .i64 (q)] H Bd K = (Yld (H n0) fun b0 => ((b0.own = true ∧ b0.cells.length = l0 * 1 ∧ l0 ≤ 281474976710656) ∧ 0 ≤ q ∧ q + (l0 * 1 : Nat) ≤ 4611686018427387904) ∧ K (.int .i64 (q + (l0 * 1 : Nat))) (upd H n0 (some ⟨flat (mkL Int (q) l0), true⟩)) Bd) := by
  refine propext ⟨fun h => ?_, fun h => ⟨_, _, _, _, _, rfl, h⟩⟩
  obtain ⟨q', s0', n0', l0', c0', e, h⟩ := h
  skip
  simp only [List.cons.injEq, Value.agg.injEq, toArr_inj, Value.int.injEq, Value.bool.injEq, Value.string.injEq, Value.slice.injEq, Value.func.injEq, Value.pointer.injEq, Option.some.injEq, Addr.mk.injEq, lst_inj, true_and, and_true, and_assoc] at e
  obtain ⟨rfl, rfl, rfl, rfl, rfl⟩ := e
  exact h
theorem W17_ok : OK 17 W17 := by
  rintro args H Bd K ⟨q, s0, n0, l0, c0, rfl, b0, hb0, ⟨hc0, h1, h2⟩, hK⟩
  refine fn_set pok ((Env.base _).add 37 _ W37_ok) [] _ hK (fun hh => (hb_setF hh hb0 _)) Tryd.func17 rfl (rs := [.tmp 4]) rfl Tryd.ntmps17 (by simp) Tryd.call17 (by kernel_rfl) (fun ha hb => .int _ _) (fun hb ha => ?_)
  have hc0_0 := hc0.1
  have hc0_1 := hc0.2.1
  have hc0_2 := hc0.2.2
  have hn0 := hb_in hb hb0
  simp (maxSteps := 2000000) (disch := first | assumption | (refine asm_intro ?_; assumption) | exact Nat.le_add_right _ _ | exact Nat.le_refl _ | omega | (simp (disch := first | exact Nat.le_add_right _ _ | omega) only [Le_upd hb, Le_app hb, Le_rfl, free_T hb, free_upd]; done) | fail) only [go_sem, push_cast, and_pos, Le_updF, Le_upd hb, free_T hb, hb0, hc0_0, hc0_1]
  repeat refine Le_mark ?_
  simp (disch := first | omega | exact Nat.le_refl _) only [Le_upd hb, Le_rfl]

def W38 : Trans := fun args H Bd K => ∃ (xs : List Int) (k : Int), args = [lst (xs), .int .i64 (k)] ∧ ((sm xs ∧ 0 ≤ k ∧ k + (xs.length * 1 : Nat) ≤ 4611686018427387904 ∧ xs = mkL Int k xs.length) ∧ K (.int .i64 (k + (xs.length * 1 : Nat))) H Bd)
@[go_sem ↓] theorem W38_eq (xs : List Int) (k : Int) (H : AH) (Bd : Nat) (K : Value → AH → Nat → Prop) : W38 [lst (xs), .int .i64 (k)] H Bd K = ((sm xs ∧ 0 ≤ k ∧ k + (xs.length * 1 : Nat) ≤ 4611686018427387904 ∧ xs = mkL Int k xs.length) ∧ K (.int .i64 (k + (xs.length * 1 : Nat))) H Bd) := by
  refine propext ⟨fun h => ?_, fun h => ⟨_, _, rfl, h⟩⟩
  obtain ⟨xs', k', e, h⟩ := h
  skip
  skip
  simp only [List.cons.injEq, Value.agg.injEq, toArr_inj, Value.int.injEq, Value.bool.injEq, Value.string.injEq, Value.slice.injEq, Value.func.injEq, Value.pointer.injEq, Option.some.injEq, Addr.mk.injEq, lst_inj, true_and, and_true] at e
  obtain ⟨rfl, rfl⟩ := e
  exact h
theorem W38_ok : OK 38 W38 := by
  rintro args H Bd K ⟨xs, k, rfl, hpre, hK⟩
  refine fn_pure pok (Env.base _) [] _ hK Tryd.func38 rfl (rs := [.tmp 4]) rfl Tryd.ntmps38 (by simp) Tryd.call38 (by kernel_rfl) (fun ha hb => .int _ _) (fun hb ha => ?_)
  obtain ⟨h1, h2, h3, h4⟩ := hpre
  have hlen := sm_len h1
  simp (maxSteps := 2000000) (disch := first | assumption | (refine asm_intro ?_; assumption) | exact Nat.le_add_right _ _ | exact Nat.le_refl _ | omega | (simp (disch := first | exact Nat.le_add_right _ _ | omega) only [Le_upd hb, Le_app hb, Le_rfl, free_T hb, free_upd]; done) | fail) only [go_sem, push_cast, and_pos, Le_updF, Le_upd hb, free_T hb]
  refine tr_for (fun i => True) (xs.length) (fun i => [(0, lst xs), (1, .int .i64 (k + (i * 1 : Nat))), (5, .int .i64 i)]) (trivial) (by simp only [go_sem, push_cast, and_pos, Le_updF, Int.zero_mul, Int.add_zero]) ?_
  intro i Bi hIi hii hBi
  refine vq_conv pok (E := (Env.base _)) (PL := []) (by kernel_rfl) ?_
  rcases Nat.lt_or_ge i (xs.length) with hlti | hgei
  · have e1 : xs[i]? = some (k + (i : Int)) := by
      rw [h4, mkL_get k hlti]; first | rfl | (rw [Nat.mul_one]; rfl)
    simp (maxSteps := 2000000) (disch := first | assumption | (refine asm_intro ?_; assumption) | exact Nat.le_add_right _ _ | exact Nat.le_refl _ | omega | (simp (disch := first | exact Nat.le_add_right _ _ | omega) only [Le_upd hb, Le_app hb, Le_rfl, free_T hb, free_upd]; done) | fail) only [go_sem, push_cast, and_pos, Le_updF, Le_upd hb, free_T hb, e1]
  · simp (maxSteps := 2000000) (disch := first | assumption | (refine asm_intro ?_; assumption) | exact Nat.le_add_right _ _ | exact Nat.le_refl _ | omega | (simp (disch := first | exact Nat.le_add_right _ _ | omega) only [Le_upd hb, Le_app hb, Le_rfl, free_T hb, free_upd]; done) | fail) only [go_sem, push_cast, and_pos, Le_updF, Le_upd hb, free_T hb]
    obtain rfl : i = xs.length := by omega
    refine vq_conv pok (E := (Env.base _)) (PL := []) (by kernel_rfl) ?_
    simp (maxSteps := 2000000) (disch := first | assumption | (refine asm_intro ?_; assumption) | exact Nat.le_add_right _ _ | exact Nat.le_refl _ | omega | (simp (disch := first | exact Nat.le_add_right _ _ | omega) only [Le_upd hb, Le_app hb, Le_rfl, free_T hb, free_upd]; done) | fail) only [go_sem, push_cast, and_pos, Le_updF, Le_upd hb, free_T hb]

def W18 : Trans := fun args H Bd K => ∃ (x : GIntsResult) (k : Int), args = [.agg (enc (x)).toArray, .int .i64 (k)] ∧ ((sm x ∧ 0 ≤ k ∧ k + (x.list.length * 1 : Nat) ≤ 4611686018427387904 ∧ x.list = mkL Int (k) x.list.length) ∧ K (.int .i64 (k + (x.list.length * 1 : Nat))) H Bd)
@[go_sem ↓] theorem W18_eq (x_code : Int) (x_list : List Int) (k : Int) (H : AH) (Bd : Nat) (K : Value → AH → Nat → Prop) : W18 [.agg #[.int .i64 (x_code), lst (x_list)], .int .i64 (k)] H Bd K = ((sm (GIntsResult.mk x_code x_list) ∧ 0 ≤ k ∧ k + ((GIntsResult.mk x_code x_list).list.length * 1 : Nat) ≤ 4611686018427387904 ∧ (GIntsResult.mk x_code x_list).list = mkL Int (k) (GIntsResult.mk x_code x_list).list.length) ∧ K (.int .i64 (k + ((GIntsResult.mk x_code x_list).list.length * 1 : Nat))) H Bd) := by
  refine propext ⟨fun h => ?_, fun h => ⟨_, _, rfl, h⟩⟩
  obtain ⟨x', k', e, h⟩ := h
  obtain ⟨xcode', xlist'⟩ := x'
  skip
  simp only [enc_GIntsResult, List.cons.injEq, Value.agg.injEq, toArr_inj, Value.int.injEq, Value.bool.injEq, Value.string.injEq, Value.slice.injEq, Value.func.injEq, Value.pointer.injEq, Option.some.injEq, Addr.mk.injEq, lst_inj, true_and, and_true] at e
  obtain ⟨⟨rfl, rfl⟩, rfl⟩ := e
  exact h
theorem W18_ok : OK 18 W18 := by
  rintro args H Bd K ⟨x, k, rfl, hpre, hK⟩
  refine fn_pure pok ((Env.base _).add 38 _ W38_ok) [] _ hK Tryd.func18 rfl (rs := [.tmp 4]) rfl Tryd.ntmps18 (by simp) Tryd.call18 (by kernel_rfl) (fun ha hb => .int _ _) (fun hb ha => ?_)
  obtain ⟨h1, h2, h3, h4⟩ := hpre
  simp only [sm_GIntsResult] at h1
  have hneg : ∀ z : Int, 0 ≤ z → (z < 0) = False := fun z h => eq_false (by omega)
  simp (maxSteps := 2000000) (disch := first | assumption | (refine asm_intro ?_; assumption) | exact Nat.le_add_right _ _ | exact Nat.le_refl _ | omega | (simp (disch := first | exact Nat.le_add_right _ _ | omega) only [Le_upd hb, Le_app hb, Le_rfl, free_T hb, free_upd]; done) | fail) only [go_sem, push_cast, and_pos, Le_updF, Le_upd hb, free_T hb, h1, eq_true h4]

theorem L18_pure : PureV W18 := by
  rintro args H Bd K ⟨x0, x1, rfl, hpre, hK⟩
  exact ⟨_, by first | exact .bool _ | exact .int _ _ | exact .string _, hK, fun H' K' hs h => ⟨x0, x1, rfl, hpre, h⟩⟩
def L18 : Trans := LendA W18
@[go_sem ↓] theorem L18_eq (v0 v1 : Value) (H : AH) (Bd : Nat) (K : Value → AH → Nat → Prop) : L18 [v0, v1] H Bd K = callW W18 (idS [giveA H v0, giveA H v1]) H Bd K := (rfl)
theorem L18_ok : OK 18 L18 := LendA_ok W18_ok L18_pure

def W4 : Trans := fun args H Bd K => ∃ (x : GSignature) (y : ByteArray), args = [.agg (enc (x)).toArray, .string (y)] ∧ ((sm x ∧ sm y ∧ PT H ∧ GP < Bd) ∧ K (.bool (true)) H Bd)
@[go_sem ↓] theorem W4_eq (x_symbols : List GSymbol) (y : ByteArray) (H : AH) (Bd : Nat) (K : Value → AH → Nat → Prop) : W4 [.agg #[lst (x_symbols)], .string (y)] H Bd K = ((sm (GSignature.mk x_symbols) ∧ sm y ∧ PT H ∧ GP < Bd) ∧ K (.bool (true)) H Bd) := by
  refine propext ⟨fun h => ?_, fun h => ⟨_, _, rfl, h⟩⟩
  obtain ⟨x', y', e, h⟩ := h
  obtain ⟨xsymbols'⟩ := x'
  skip
  simp only [enc_GSignature, List.cons.injEq, Value.agg.injEq, toArr_inj, Value.int.injEq, Value.bool.injEq, Value.string.injEq, Value.slice.injEq, Value.func.injEq, Value.pointer.injEq, Option.some.injEq, Addr.mk.injEq, lst_inj, true_and, and_true] at e
  obtain ⟨rfl, rfl⟩ := e
  exact h
set_option maxHeartbeats 2000000 in
theorem W4_ok : OK 4 W4 := by
  rintro args H Bd K ⟨x, y, rfl, hpre, hK⟩
  refine fn_pure pok ((((((((((Env.base _).add 10 _ W10_ok).add 12 _ O12_ok).add 11 _ J11_ok).add 13 _ M13_ok).add 14 _ L14_ok).add 15 _ L15_ok).add 16 _ W16_ok).add 17 _ W17_ok).add 18 _ L18_ok) [(12, [0,1,2,3,4], [⟨0, [], []⟩, ⟨1, [], []⟩, ⟨2, [], [0]⟩, ⟨3, [], []⟩, ⟨4, [], []⟩], .nil), (16, [], [], (.k 3 (.grp false 44 48 4 [45, 46, 47, 48] 49 none (.k 4 .nil) .nil)))] _ hK Tryd.func4 rfl (rs := [.tmp 4]) rfl Tryd.ntmps4 (by simp) Tryd.call4 (by kernel_rfl) (fun ha hb => .bool _) (fun hb ha => ?_)
  obtain ⟨h1, h2, h3, h4⟩ := hpre
  have hsg := h1
  by_cases hc : y.size > 1048576
  · simp (maxSteps := 2000000) (disch := first | assumption | (refine asm_intro ?_; assumption) | exact Nat.le_add_right _ _ | exact Nat.le_refl _ | omega | (simp (disch := first | exact Nat.le_add_right _ _ | omega) only [Le_upd hb, Le_app hb, Le_rfl, free_T hb, free_upd]; done) | fail) only [go_sem, push_cast, and_pos, Le_updF, Le_upd hb, free_T hb, hc]
  by_cases hz : szP (tot x) 1048576 < 0
  · simp (maxSteps := 2000000) (disch := first | assumption | (refine asm_intro ?_; assumption) | exact Nat.le_add_right _ _ | exact Nat.le_refl _ | omega | (simp (disch := first | exact Nat.le_add_right _ _ | omega) only [Le_upd hb, Le_app hb, Le_rfl, free_T hb, free_upd]; done) | fail) only [go_sem, push_cast, and_pos, Le_updF, Le_upd hb, free_T hb, hc, h1, hz]
  have y0 := szP_ub (tot x) (left := 1048576) (by omega)
  have z0 := szP_or (tot x) 1048576
  obtain ⟨g1, g2⟩ := readOrd_sm x (t := y) (by omega)
  have hl : x.symbols.length ≤ 1048576 := by
    have : tot x = tot x.symbols := rfl
    have := tot_list x.symbols
    omega
  have g3 : sm (mkL Int 1 (readOrd x y).list.length) := mkL_sm 1 (by omega)
  have g4 : sm (⟨(readOrd x y).code, mkL Int 1 (readOrd x y).list.length⟩ : GIntsResult) := ⟨trivial, g3⟩
  simp (maxSteps := 2000000) (disch := first | assumption | (refine asm_intro ?_; assumption) | exact Nat.le_add_right _ _ | exact Nat.le_refl _ | omega | (simp (disch := first | exact Nat.le_add_right _ _ | omega) only [Le_upd hb, Le_app hb, Le_rfl, free_T hb, free_upd]; done) | fail) only [go_sem, push_cast, and_pos, Le_updF, Le_upd hb, free_T hb, hc, hz, h1, h3, g1, g4]
  trace_state

end Go.Proofs.YthhcemhignihlaaDoor
