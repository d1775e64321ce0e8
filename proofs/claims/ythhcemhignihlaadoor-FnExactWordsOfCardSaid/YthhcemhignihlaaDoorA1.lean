/- YthhcemhignihlaaDoorA1 -/
import Derived.Test.YthhcemhignihlaaDoorLib
set_option linter.unusedSimpArgs false
set_option linter.unusedVariables false
set_option maxRecDepth 20000
namespace Go.Proofs.YthhcemhignihlaaDoor
open Go Go.SC

def W26 : Trans := fun args H Bd K => ∃ (s : ByteArray) (n : Int), args = [.string (s), .int .u8 n] ∧ ((s.size ≤ 1048576 ∧ 0 ≤ n ∧ n < 256) ∧ K (lst (cutB s (UInt8.ofNat n.toNat))) H Bd)
@[go_sem ↓] theorem W26_eq (s : ByteArray) (n : Int) (H : AH) (Bd : Nat) (K : Value → AH → Nat → Prop) : W26 [.string (s), .int .u8 n] H Bd K = ((s.size ≤ 1048576 ∧ 0 ≤ n ∧ n < 256) ∧ K (lst (cutB s (UInt8.ofNat n.toNat))) H Bd) := by
  refine propext ⟨fun h => ?_, fun h => ⟨_, _, rfl, h⟩⟩
  obtain ⟨s', n', e, h⟩ := h
  skip
  simp only [List.cons.injEq, Value.agg.injEq, toArr_inj, Value.int.injEq, Value.bool.injEq, Value.string.injEq, Value.slice.injEq, Value.func.injEq, Value.pointer.injEq, Option.some.injEq, Addr.mk.injEq, lst_inj, true_and, and_true] at e
  obtain ⟨rfl, rfl⟩ := e
  exact h
set_option maxHeartbeats 2000000 in
theorem W26_ok : OK 26 W26 := by
  rintro args H Bd K ⟨s, n, rfl, hpre, hK⟩
  refine fn_pure pok (Env.base _) [(6, [], [], (.k 5 (.grp false 19 24 5 [20, 21, 22, 23, 24] 25 none (.k 5 .nil) .nil)))] _ hK Tryd.func26 rfl (rs := [.tmp 4]) rfl Tryd.ntmps26 (by simp) Tryd.call26 (by kernel_rfl) (fun ha hb => lst_nb _ _) (fun hb ha => ?_)
  obtain ⟨hsz, hn0, hn1⟩ := hpre
  obtain ⟨c, rfl, hc⟩ : ∃ c : UInt8, n = (c.toNat : Int) ∧ UInt8.ofNat n.toNat = c := ⟨UInt8.ofNat n.toNat, by simp; omega, rfl⟩
  rw [hc]
  simp (maxSteps := 2000000) (disch := first | assumption | (refine asm_intro ?_; assumption) | exact Nat.le_add_right _ _ | exact Nat.le_refl _ | omega | (simp (disch := first | exact Nat.le_add_right _ _ | omega) only [Le_upd hb, Le_app hb, Le_rfl, free_T hb, free_upd]; done) | fail) only [go_sem, push_cast, and_pos, Le_updF, Le_upd hb, free_T hb]
  refine tr_acc (α := ByteArray) (H0 := H) (B0 := Bd) (n0 := Bd) (s.size + 1) (fun i => (cutS s c i).1) (fun i out => [(0, .string s), (1, .int .u8 (c.toNat : Int)), (5, out), (6, .int .i64 ((cutS s c i).2 : Nat)), (7, .int .i64 i)]) (Nat.le_refl 1) ⟨by omega, by omega⟩ (by simp only [go_sem, push_cast, and_pos, Le_updF, cutS]) (by simp (disch := first | assumption | omega) only [go_sem, push_cast, and_pos, Le_updF, flat_nil, cutS]) ?_
  intro i ni ci Bi hii hci hni hmi hBi hbi
  refine vq_conv pok (E := (Env.base _)) (PL := [(6, [], [], (.k 5 (.grp false 19 24 5 [20, 21, 22, 23, 24] 25 none (.k 5 .nil) .nil)))]) (by kernel_rfl) ?_
  have hzi : (ci = 0) = False := eq_false (by omega)
  rcases Nat.lt_or_ge i (s.size + 1) with hlti | hgei
  · have hlen := cutS_len s c i
    have hle := cutS_le s c i
    by_cases he : i = s.size
    · have hst := cutS_hit (s := s) (c := c) (.inr he)
      simp (maxSteps := 2000000) (disch := first | assumption | (refine asm_intro ?_; assumption) | exact Nat.le_add_right _ _ | exact Nat.le_refl _ | omega | (simp (disch := first | exact Nat.le_add_right _ _ | omega) only [Le_upd hb, Le_app hb, Le_rfl, free_T hb, free_upd]; done) | fail) only [go_sem, push_cast, and_pos, Le_updF, Le_upd hb, free_T hb, hzi, hst, eq_true he, flat_append, flat_one]
      exact acc_end (by omega) (by omega) (by simp) rfl (by simp (disch := first | assumption | omega | (simp (disch := omega) only [free_upd, free_T hb]; done)) only [Le_upd2, Le_updF, Le_rfl, free_upd, free_T hb])
    · have hlt2 : i < s.data.toList.length := by rw [size_list]; omega
      have e1 : s.data.toList[i]? = some s.data.toList[i] := List.getElem?_eq_getElem hlt2
      have e2 : byteAt s i = (s.data.toList[i].toNat : Int) := by unfold byteAt; rw [List.getD_eq_getElem?_getD, e1]; rfl
      by_cases hx : s.data.toList[i] = c
      · have hst := cutS_hit (s := s) (c := c) (i := i) (.inl (by rw [e1, hx]))
        rw [hx] at e2
        simp (maxSteps := 2000000) (disch := first | assumption | (refine asm_intro ?_; assumption) | exact Nat.le_add_right _ _ | exact Nat.le_refl _ | omega | (simp (disch := first | exact Nat.le_add_right _ _ | omega) only [Le_upd hb, Le_app hb, Le_rfl, free_T hb, free_upd]; done) | fail) only [go_sem, push_cast, and_pos, Le_updF, Le_upd hb, free_T hb, hzi, he, e2, hst, flat_append, flat_one]
        exact acc_end (by omega) (by omega) (by simp) rfl (by simp (disch := first | assumption | omega | (simp (disch := omega) only [free_upd, free_T hb]; done)) only [Le_upd2, Le_updF, Le_rfl, free_upd, free_T hb])
      · have hst := cutS_miss (s := s) (c := c) (i := i) (by rintro (h | h) <;> first | exact he h | (rw [e1] at h; exact hx (Option.some.inj h)))
        have e3 : (byteAt s i = (c.toNat : Int)) = False := eq_false fun h => hx (UInt8.toNat_inj.1 (by rw [e2] at h; omega))
        simp (maxSteps := 2000000) (disch := first | assumption | (refine asm_intro ?_; assumption) | exact Nat.le_add_right _ _ | exact Nat.le_refl _ | omega | (simp (disch := first | exact Nat.le_add_right _ _ | omega) only [Le_upd hb, Le_app hb, Le_rfl, free_T hb, free_upd]; done) | fail) only [go_sem, push_cast, and_pos, Le_updF, Le_upd hb, free_T hb, hzi, he, e3, hst]
        exact ⟨ni, ci, by omega, by omega, by omega, Le.refl _, rfl⟩
  · simp (maxSteps := 2000000) (disch := first | assumption | (refine asm_intro ?_; assumption) | exact Nat.le_add_right _ _ | exact Nat.le_refl _ | omega | (simp (disch := first | exact Nat.le_add_right _ _ | omega) only [Le_upd hb, Le_app hb, Le_rfl, free_T hb, free_upd]; done) | fail) only [go_sem, push_cast, and_pos, Le_updF, Le_upd hb, free_T hb]
    refine Tr.fin2 5 (by simp (disch := first | assumption | omega) only [free_upd, free_T hb]) (by simp only [go_sem, push_cast, and_pos, Le_updF]; rfl) rfl ?_
    refine vq_conv pok (E := (Env.base _)) (PL := [(6, [], [], (.k 5 (.grp false 19 24 5 [20, 21, 22, 23, 24] 25 none (.k 5 .nil) .nil)))]) (by kernel_rfl) ?_
    obtain rfl : i = s.size + 1 := by omega
    simp (maxSteps := 2000000) (disch := first | assumption | (refine asm_intro ?_; assumption) | exact Nat.le_add_right _ _ | exact Nat.le_refl _ | omega | (simp (disch := first | exact Nat.le_add_right _ _ | omega) only [Le_upd hb, Le_app hb, Le_rfl, free_T hb, free_upd]; done) | fail) only [go_sem, push_cast, and_pos, Le_updF, Le_upd hb, free_T hb]
    exact .same _

def W19 : Trans := fun args H Bd K => ∃ (s : ByteArray), args = [.string (s)] ∧ ((s.size ≤ 1048576) ∧ K (lst (wordsB s)) H Bd)
@[go_sem ↓] theorem W19_eq (s : ByteArray) (H : AH) (Bd : Nat) (K : Value → AH → Nat → Prop) : W19 [.string (s)] H Bd K = ((s.size ≤ 1048576) ∧ K (lst (wordsB s)) H Bd) := by
  refine propext ⟨fun h => ?_, fun h => ⟨_, rfl, h⟩⟩
  obtain ⟨s', e, h⟩ := h
  skip
  simp only [List.cons.injEq, Value.agg.injEq, toArr_inj, Value.int.injEq, Value.bool.injEq, Value.string.injEq, Value.slice.injEq, Value.func.injEq, Value.pointer.injEq, Option.some.injEq, Addr.mk.injEq, lst_inj, true_and, and_true] at e
  obtain rfl := e
  exact h
set_option maxHeartbeats 2000000 in
theorem W19_ok : OK 19 W19 := by
  rintro args H Bd K ⟨s, rfl, hpre, hK⟩
  refine fn_pure pok ((Env.base _).add 26 _ W26_ok) [] _ hK Tryd.func19 rfl (rs := [.tmp 2]) rfl Tryd.ntmps19 (by simp) Tryd.call19 (by kernel_rfl) (fun ha hb => lst_nb _ _) (fun hb ha => ?_)
  have hl := cutB_len_le s 32
  have hc : UInt8.ofNat 32 = 32 := rfl
  simp (maxSteps := 2000000) (disch := first | assumption | (refine asm_intro ?_; assumption) | exact Nat.le_add_right _ _ | exact Nat.le_refl _ | omega | (simp (disch := first | exact Nat.le_add_right _ _ | omega) only [Le_upd hb, Le_app hb, Le_rfl, free_T hb, free_upd]; done) | fail) only [go_sem, push_cast, and_pos, Le_updF, Le_upd hb, free_T hb, hpre, hc]
  refine tr_acc (α := ByteArray) (H0 := H) (B0 := Bd) (n0 := Bd) ((cutB s 32).length) (fun i => ((cutB s 32).take i).filter fun x => !(x.size == 0)) (fun i out => [(3, out), (4, lst (cutB s 32)), (5, .int .i64 i)]) (Nat.le_refl 1) ⟨by omega, by omega⟩ (by simp only [go_sem, push_cast, and_pos, Le_updF, List.take_zero, List.filter_nil]) (by simp (disch := first | assumption | omega) only [go_sem, push_cast, and_pos, Le_updF, flat_nil, List.take_zero, List.filter_nil]) ?_
  intro i ni ci Bi hii hci hni hmi hBi hbi
  refine vq_conv pok (E := ((Env.base _).add 26 _ W26_ok)) (PL := []) (by kernel_rfl) ?_
  have hzi : (ci = 0) = False := eq_false (by omega)
  rcases Nat.lt_or_ge i ((cutB s 32).length) with hlti | hgei
  · have e1 : (cutB s 32)[i]? = some (cutB s 32)[i] := List.getElem?_eq_getElem hlti
    have hlen := filt_len (fun x : ByteArray => !(x.size == 0)) (cutB s 32) i
    by_cases hx : 0 < (cutB s 32)[i].size
    · have hst := filt_hit (p := fun x : ByteArray => !(x.size == 0)) hlti (by show (!((cutB s 32)[i].size == 0)) = true; rw [Bool.not_eq_true', beq_eq_false_iff_ne]; omega)
      simp (maxSteps := 2000000) (disch := first | assumption | (refine asm_intro ?_; assumption) | exact Nat.le_add_right _ _ | exact Nat.le_refl _ | omega | (simp (disch := first | exact Nat.le_add_right _ _ | omega) only [Le_upd hb, Le_app hb, Le_rfl, free_T hb, free_upd]; done) | fail) only [go_sem, push_cast, and_pos, Le_updF, Le_upd hb, free_T hb, hzi, e1, hst, hx, flat_append, flat_one]
      exact acc_end (by omega) (by omega) (by simp) rfl (by simp (disch := first | assumption | omega | (simp (disch := omega) only [free_upd, free_T hb]; done)) only [Le_upd2, Le_updF, Le_rfl, free_upd, free_T hb])
    · have hst := filt_miss (p := fun x : ByteArray => !(x.size == 0)) hlti (by show (!((cutB s 32)[i].size == 0)) = false; rw [Bool.not_eq_false', beq_iff_eq]; omega)
      simp (maxSteps := 2000000) (disch := first | assumption | (refine asm_intro ?_; assumption) | exact Nat.le_add_right _ _ | exact Nat.le_refl _ | omega | (simp (disch := first | exact Nat.le_add_right _ _ | omega) only [Le_upd hb, Le_app hb, Le_rfl, free_T hb, free_upd]; done) | fail) only [go_sem, push_cast, and_pos, Le_updF, Le_upd hb, free_T hb, hzi, e1, hst, hx]
      exact ⟨ni, ci, by omega, by omega, by omega, Le.refl _, rfl⟩
  · simp (maxSteps := 2000000) (disch := first | assumption | (refine asm_intro ?_; assumption) | exact Nat.le_add_right _ _ | exact Nat.le_refl _ | omega | (simp (disch := first | exact Nat.le_add_right _ _ | omega) only [Le_upd hb, Le_app hb, Le_rfl, free_T hb, free_upd]; done) | fail) only [go_sem, push_cast, and_pos, Le_updF, Le_upd hb, free_T hb]
    refine Tr.fin2 3 (by simp (disch := first | assumption | omega) only [free_upd, free_T hb]) (by simp only [go_sem, push_cast, and_pos, Le_updF]; rfl) rfl ?_
    refine vq_conv pok (E := ((Env.base _).add 26 _ W26_ok)) (PL := []) (by kernel_rfl) ?_
    rw [List.take_of_length_le hgei]
    simp (maxSteps := 2000000) (disch := first | assumption | (refine asm_intro ?_; assumption) | exact Nat.le_add_right _ _ | exact Nat.le_refl _ | omega | (simp (disch := first | exact Nat.le_add_right _ _ | omega) only [Le_upd hb, Le_app hb, Le_rfl, free_T hb, free_upd]; done) | fail) only [go_sem, push_cast, and_pos, Le_updF, Le_upd hb, free_T hb]
    exact .same _

def W5 : Trans := fun args H Bd K => ∃ (s : ByteArray), args = [.string (s)] ∧ ((s.size ≤ 1048576) ∧ K (.agg (enc (wordsR s)).toArray) H Bd)
@[go_sem ↓] theorem W5_eq (s : ByteArray) (H : AH) (Bd : Nat) (K : Value → AH → Nat → Prop) : W5 [.string (s)] H Bd K = ((s.size ≤ 1048576) ∧ K (.agg (enc (wordsR s)).toArray) H Bd) := by
  refine propext ⟨fun h => ?_, fun h => ⟨_, rfl, h⟩⟩
  obtain ⟨s', e, h⟩ := h
  skip
  simp only [List.cons.injEq, Value.agg.injEq, toArr_inj, Value.int.injEq, Value.bool.injEq, Value.string.injEq, Value.slice.injEq, Value.func.injEq, Value.pointer.injEq, Option.some.injEq, Addr.mk.injEq, lst_inj, true_and, and_true] at e
  obtain rfl := e
  exact h
theorem W5_ok : OK 5 W5 := by
  rintro args H Bd K ⟨s, rfl, hpre, hK⟩
  refine fn_pure pok ((Env.base _).add 19 _ W19_ok) [] _ hK Tryd.func5 rfl (rs := [.cell 2 24]) rfl Tryd.ntmps5 (by simp) Tryd.call5 (by kernel_rfl) (fun ha hb => agg_nb _ _) (fun hb ha => ?_)
  by_cases hc : s.size > 1500
  · have e := wordsR_big hc
    simp (maxSteps := 2000000) (disch := first | assumption | (refine asm_intro ?_; assumption) | exact Nat.le_add_right _ _ | exact Nat.le_refl _ | omega | (simp (disch := first | exact Nat.le_add_right _ _ | omega) only [Le_upd hb, Le_app hb, Le_rfl, free_T hb, free_upd]; done) | fail) only [go_sem, push_cast, and_pos, Le_updF, Le_upd hb, free_T hb, e, hc]
  · have e := wordsR_small hc
    simp (maxSteps := 2000000) (disch := first | assumption | (refine asm_intro ?_; assumption) | exact Nat.le_add_right _ _ | exact Nat.le_refl _ | omega | (simp (disch := first | exact Nat.le_add_right _ _ | omega) only [Le_upd hb, Le_app hb, Le_rfl, free_T hb, free_upd]; done) | fail) only [go_sem, push_cast, and_pos, Le_updF, Le_upd hb, free_T hb, e, hc, hpre]

def W20 : Trans := fun args H Bd K => ∃ (s : ByteArray), args = [.string (s)] ∧ ((sm s ∧ s.size < 4294967281 ∧ PT H) ∧ K (.slice (some ⟨Bd, 0, some 1⟩) (wordsB s).length ((wordsB s).length + 1)) (upd H Bd (some ⟨flat (wordsB s), true⟩)) (Bd + 1))
@[go_sem ↓] theorem W20_eq (s : ByteArray) (H : AH) (Bd : Nat) (K : Value → AH → Nat → Prop) : W20 [.string (s)] H Bd K = ((sm s ∧ s.size < 4294967281 ∧ PT H) ∧ K (.slice (some ⟨Bd, 0, some 1⟩) (wordsB s).length ((wordsB s).length + 1)) (upd H Bd (some ⟨flat (wordsB s), true⟩)) (Bd + 1)) := by
  refine propext ⟨fun h => ?_, fun h => ⟨_, rfl, h⟩⟩
  obtain ⟨s', e, h⟩ := h
  skip
  simp only [List.cons.injEq, Value.agg.injEq, toArr_inj, Value.int.injEq, Value.bool.injEq, Value.string.injEq, Value.slice.injEq, Value.func.injEq, Value.pointer.injEq, Option.some.injEq, Addr.mk.injEq, lst_inj, true_and, and_true] at e
  obtain rfl := e
  exact h
theorem W20_ok : OK 20 W20 := by
  rintro args H Bd K ⟨s, rfl, hpre, hK⟩
  refine fn_own pok (((Env.base _).add 31 _ W31_ok).add 39 _ W39_ok) [] (.slice (some ⟨Bd, 0, some 1⟩) (wordsB s).length ((wordsB s).length + 1)) [flat (wordsB s)] hK Tryd.func20 rfl (rs := [.tmp 2]) rfl Tryd.ntmps20 (by simp) Tryd.call20 (by kernel_rfl) (fun cells hc v hv => by simp only [List.mem_cons, List.not_mem_nil, or_false] at hc; rcases hc with rfl <;> exact flat_nb _ _ _ hv) (fun hb ha => ?_)
  obtain ⟨h1, h2, h3⟩ := hpre
  have hp := cutB_pos s 32
  have hl := cutB_len_le s 32
  simp (maxSteps := 2000000) (disch := first | assumption | (refine asm_intro ?_; assumption) | exact Nat.le_add_right _ _ | exact Nat.le_refl _ | omega | (simp (disch := first | exact Nat.le_add_right _ _ | omega) only [Le_upd hb, Le_app hb, Le_rfl, free_T hb, free_upd]; done) | fail) only [go_sem, push_cast, and_pos, Le_updF, Le_upd hb, free_T hb, h3]
  unfold wordsB
  simp only [and_self]

def W6 : Trans := fun args H Bd K => ∃ (s : ByteArray), args = [.string (s)] ∧ ((sm s ∧ s.size < 4294967281 ∧ PT H ∧ GP < Bd) ∧ K (.agg #[.int .i64 ((wordsR s).code), .slice (some ⟨Bd, 0, some 1⟩) ((wordsR s).words).length (((wordsR s).words).length + 1)]) (upd H Bd (some ⟨flat ((wordsR s).words), true⟩)) (Bd + 1))
@[go_sem ↓] theorem W6_eq (s : ByteArray) (H : AH) (Bd : Nat) (K : Value → AH → Nat → Prop) : W6 [.string (s)] H Bd K = ((sm s ∧ s.size < 4294967281 ∧ PT H ∧ GP < Bd) ∧ K (.agg #[.int .i64 ((wordsR s).code), .slice (some ⟨Bd, 0, some 1⟩) ((wordsR s).words).length (((wordsR s).words).length + 1)]) (upd H Bd (some ⟨flat ((wordsR s).words), true⟩)) (Bd + 1)) := by
  refine propext ⟨fun h => ?_, fun h => ⟨_, rfl, h⟩⟩
  obtain ⟨s', e, h⟩ := h
  skip
  simp only [List.cons.injEq, Value.agg.injEq, toArr_inj, Value.int.injEq, Value.bool.injEq, Value.string.injEq, Value.slice.injEq, Value.func.injEq, Value.pointer.injEq, Option.some.injEq, Addr.mk.injEq, lst_inj, true_and, and_true] at e
  obtain rfl := e
  exact h
theorem W6_ok : OK 6 W6 := by
  rintro args H Bd K ⟨s, rfl, hpre, hK⟩
  refine fn_own pok ((Env.base _).add 20 _ W20_ok) [] (.agg #[.int .i64 ((wordsR s).code), .slice (some ⟨Bd, 0, some 1⟩) ((wordsR s).words).length (((wordsR s).words).length + 1)]) [flat ((wordsR s).words)] hK Tryd.func6 rfl (rs := [.cell 2 24]) rfl Tryd.ntmps6 (by simp) Tryd.call6 (by kernel_rfl) (fun cells hc v hv => by simp only [List.mem_cons, List.not_mem_nil, or_false] at hc; rcases hc with rfl <;> exact flat_nb _ _ _ hv) (fun hb ha => ?_)
  obtain ⟨h1, h2, h3, h4⟩ := hpre
  by_cases hc : s.size > 1500
  · have e := wordsR_big hc
    simp (maxSteps := 2000000) (disch := first | assumption | (refine asm_intro ?_; assumption) | exact Nat.le_add_right _ _ | exact Nat.le_refl _ | omega | (simp (disch := first | exact Nat.le_add_right _ _ | omega) only [Le_upd hb, Le_app hb, Le_rfl, free_T hb, free_upd]; done) | fail) only [go_sem, push_cast, and_pos, Le_updF, Le_upd hb, free_T hb, e, hc, h3, flat_nil]
  · have e := wordsR_small hc
    simp (maxSteps := 2000000) (disch := first | assumption | (refine asm_intro ?_; assumption) | exact Nat.le_add_right _ _ | exact Nat.le_refl _ | omega | (simp (disch := first | exact Nat.le_add_right _ _ | omega) only [Le_upd hb, Le_app hb, Le_rfl, free_T hb, free_upd]; done) | fail) only [go_sem, push_cast, and_pos, Le_updF, Le_upd hb, free_T hb, e, hc, h1, h2, h3]

def W21 : Trans := fun args H Bd K => ∃ (xs : List ByteArray) (ys : List ByteArray), args = [lst (xs), lst (ys)] ∧ ((sm xs) ∧ K (.bool (decide (xs = ys))) H Bd)
@[go_sem ↓] theorem W21_eq (xs : List ByteArray) (ys : List ByteArray) (H : AH) (Bd : Nat) (K : Value → AH → Nat → Prop) : W21 [lst (xs), lst (ys)] H Bd K = ((sm xs) ∧ K (.bool (decide (xs = ys))) H Bd) := by
  refine propext ⟨fun h => ?_, fun h => ⟨_, _, rfl, h⟩⟩
  obtain ⟨xs', ys', e, h⟩ := h
  skip
  skip
  simp only [List.cons.injEq, Value.agg.injEq, toArr_inj, Value.int.injEq, Value.bool.injEq, Value.string.injEq, Value.slice.injEq, Value.func.injEq, Value.pointer.injEq, Option.some.injEq, Addr.mk.injEq, lst_inj, true_and, and_true] at e
  obtain ⟨rfl, rfl⟩ := e
  exact h
theorem W21_ok : OK 21 W21 := by
  rintro args H Bd K ⟨xs, ys, rfl, hpre, hK⟩
  refine fn_pure pok (Env.base _) [(6, [0,1,2,3,4,5,6,7,8], [⟨0, [], []⟩, ⟨1, [], []⟩, ⟨2, [], []⟩, ⟨3, [], []⟩, ⟨4, [], []⟩, ⟨5, [], []⟩, ⟨6, [], []⟩, ⟨7, [], []⟩, ⟨8, [], []⟩], .nil)] _ hK Tryd.func21 rfl (rs := [.tmp 4]) rfl Tryd.ntmps21 (by simp) Tryd.call21 (by kernel_rfl) (fun ha hb => .bool _) (fun hb ha => ?_)
  have hlen := sm_len hpre
  simp (maxSteps := 2000000) (disch := first | assumption | (refine asm_intro ?_; assumption) | exact Nat.le_add_right _ _ | exact Nat.le_refl _ | omega | (simp (disch := first | exact Nat.le_add_right _ _ | omega) only [Le_upd hb, Le_app hb, Le_rfl, free_T hb, free_upd]; done) | fail) only [go_sem, push_cast, and_pos, Le_updF, Le_upd hb, free_T hb]
  refine Cnp.of (fun hl => ?_) (fun hl => cmp_len (by omega))
  have hl' : xs.length = ys.length := by omega
  refine tr_for (fun i => ∀ j, j < i → xs[j]? = ys[j]?) xs.length (fun i => [(0, lst xs), (1, lst ys), (5, .int .i64 i)]) (fun j h => by omega) (by simp only [go_sem, push_cast, and_pos, Le_updF]) ?_
  intro i B0 hI hi hB
  refine vq_conv pok (E := (Env.base _)) (PL := [(6, [0,1,2,3,4,5,6,7,8], [⟨0, [], []⟩, ⟨1, [], []⟩, ⟨2, [], []⟩, ⟨3, [], []⟩, ⟨4, [], []⟩, ⟨5, [], []⟩, ⟨6, [], []⟩, ⟨7, [], []⟩, ⟨8, [], []⟩], .nil)]) (by kernel_rfl) ?_
  rcases Nat.lt_or_ge i xs.length with hlt | hge
  · have e1 : xs[i]? = some xs[i] := List.getElem?_eq_getElem hlt
    have e2 : ys[i]? = some (ys[i]'(by omega)) := List.getElem?_eq_getElem _
    have hx := sm_mem hpre (List.getElem_mem hlt)
    simp (maxSteps := 2000000) (disch := first | assumption | (refine asm_intro ?_; assumption) | exact Nat.le_add_right _ _ | exact Nat.le_refl _ | omega | (simp (disch := first | exact Nat.le_add_right _ _ | omega) only [Le_upd hb, Le_app hb, Le_rfl, free_T hb, free_upd]; done) | fail) only [go_sem, push_cast, and_pos, Le_updF, Le_upd hb, free_T hb, e1, e2, hx]
    exact cmp_step hl' hI hlt (by omega) rfl fun h => h
  · simp (maxSteps := 2000000) (disch := first | assumption | (refine asm_intro ?_; assumption) | exact Nat.le_add_right _ _ | exact Nat.le_refl _ | omega | (simp (disch := first | exact Nat.le_add_right _ _ | omega) only [Le_upd hb, Le_app hb, Le_rfl, free_T hb, free_upd]; done) | fail) only [go_sem, push_cast, and_pos, Le_updF, Le_upd hb, free_T hb]
    refine vq_conv pok (E := (Env.base _)) (PL := [(6, [0,1,2,3,4,5,6,7,8], [⟨0, [], []⟩, ⟨1, [], []⟩, ⟨2, [], []⟩, ⟨3, [], []⟩, ⟨4, [], []⟩, ⟨5, [], []⟩, ⟨6, [], []⟩, ⟨7, [], []⟩, ⟨8, [], []⟩], .nil)]) (by kernel_rfl) ?_
    simp (maxSteps := 2000000) (disch := first | assumption | (refine asm_intro ?_; assumption) | exact Nat.le_add_right _ _ | exact Nat.le_refl _ | omega | (simp (disch := first | exact Nat.le_add_right _ _ | omega) only [Le_upd hb, Le_app hb, Le_rfl, free_T hb, free_upd]; done) | fail) only [go_sem, push_cast, and_pos, Le_updF, Le_upd hb, free_T hb]
    exact cmp_end hl' hI hge

def W7 : Trans := fun args H Bd K => ∃ (x : GWordsResult) (y : GWordsResult), args = [.agg (enc (x)).toArray, .agg (enc (y)).toArray] ∧ ((sm x) ∧ K (.bool (decide (x = y))) H Bd)
@[go_sem ↓] theorem W7_eq (x_code : Int) (x_words : List ByteArray) (y_code : Int) (y_words : List ByteArray) (H : AH) (Bd : Nat) (K : Value → AH → Nat → Prop) : W7 [.agg #[.int .i64 (x_code), lst (x_words)], .agg #[.int .i64 (y_code), lst (y_words)]] H Bd K = ((sm (GWordsResult.mk x_code x_words)) ∧ K (.bool (decide ((GWordsResult.mk x_code x_words) = (GWordsResult.mk y_code y_words)))) H Bd) := by
  refine propext ⟨fun h => ?_, fun h => ⟨_, _, rfl, h⟩⟩
  obtain ⟨x', y', e, h⟩ := h
  obtain ⟨xcode', xwords'⟩ := x'
  obtain ⟨ycode', ywords'⟩ := y'
  simp only [enc_GWordsResult, List.cons.injEq, Value.agg.injEq, toArr_inj, Value.int.injEq, Value.bool.injEq, Value.string.injEq, Value.slice.injEq, Value.func.injEq, Value.pointer.injEq, Option.some.injEq, Addr.mk.injEq, lst_inj, true_and, and_true] at e
  obtain ⟨⟨rfl, rfl⟩, ⟨rfl, rfl⟩⟩ := e
  exact h
theorem W7_ok : OK 7 W7 := by
  rintro args H Bd K ⟨x, y, rfl, hpre, hK⟩
  refine fn_pure pok ((Env.base _).add 21 _ W21_ok) [] _ hK Tryd.func7 rfl (rs := [.tmp 4]) rfl Tryd.ntmps7 (by simp) Tryd.call7 (by kernel_rfl) (fun ha hb => .bool _) (fun hb ha => ?_)
  simp only [sm_GWordsResult] at hpre
  simp (maxSteps := 2000000) (disch := first | assumption | (refine asm_intro ?_; assumption) | exact Nat.le_add_right _ _ | exact Nat.le_refl _ | omega | (simp (disch := first | exact Nat.le_add_right _ _ | omega) only [Le_upd hb, Le_app hb, Le_rfl, free_T hb, free_upd]; done) | fail) only [go_sem, push_cast, and_pos, Le_updF, Le_upd hb, free_T hb, hpre]
  cases x; cases y
  simp only [Cnp, GWordsResult.mk.injEq]
  constructor <;> intros <;> simp_all

theorem L7_pure : PureV W7 := by
  rintro args H Bd K ⟨x0, x1, rfl, hpre, hK⟩
  exact ⟨_, by first | exact .bool _ | exact .int _ _ | exact .string _, hK, fun H' K' hs h => ⟨x0, x1, rfl, hpre, h⟩⟩
def L7 : Trans := LendA W7
@[go_sem ↓] theorem L7_eq (v0 v1 : Value) (H : AH) (Bd : Nat) (K : Value → AH → Nat → Prop) : L7 [v0, v1] H Bd K = callW W7 (idS [giveA H v0, giveA H v1]) H Bd K := (rfl)
theorem L7_ok : OK 7 L7 := LendA_ok W7_ok L7_pure

def W41 : Trans := fun args H Bd K => ∃ (k : Int), args = [.int .i64 (k)] ∧ ((k ≤ 4611686018427387904) ∧ K (.string (mtext k)) H Bd)
@[go_sem ↓] theorem W41_eq (k : Int) (H : AH) (Bd : Nat) (K : Value → AH → Nat → Prop) : W41 [.int .i64 (k)] H Bd K = ((k ≤ 4611686018427387904) ∧ K (.string (mtext k)) H Bd) := by
  refine propext ⟨fun h => ?_, fun h => ⟨_, rfl, h⟩⟩
  obtain ⟨k', e, h⟩ := h
  skip
  simp only [List.cons.injEq, Value.agg.injEq, toArr_inj, Value.int.injEq, Value.bool.injEq, Value.string.injEq, Value.slice.injEq, Value.func.injEq, Value.pointer.injEq, Option.some.injEq, Addr.mk.injEq, lst_inj, true_and, and_true] at e
  obtain rfl := e
  exact h
theorem W41_ok : OK 41 W41 := by
  rintro args H Bd K ⟨k, rfl, hpre, hK⟩
  refine fn_pure pok (Env.base _) [] _ hK Tryd.func41 rfl (rs := [.tmp 2]) rfl Tryd.ntmps41 (by simp) Tryd.call41 (by kernel_rfl) (fun ha hb => .string _) (fun hb ha => ?_)
  by_cases hk : k ≤ 0
  · have hm : mtext k = ⟨#[109, 48]⟩ := by unfold mtext; rw [if_pos hk]
    simp (maxSteps := 2000000) (disch := first | assumption | (refine asm_intro ?_; assumption) | exact Nat.le_add_right _ _ | exact Nat.le_refl _ | omega | (simp (disch := first | exact Nat.le_add_right _ _ | omega) only [Le_upd hb, Le_app hb, Le_rfl, free_T hb, free_upd]; done) | fail) only [go_sem, push_cast, and_pos, Le_updF, Le_upd hb, free_T hb, hk, hm]
  obtain ⟨k, rfl⟩ := Int.eq_ofNat_of_zero_le (show 0 ≤ k by omega)
  have hm : mtext (k : Int) = ⟨#[109]⟩ ++ mtD 64 k ⟨#[]⟩ := by unfold mtext; rw [if_neg hk, Int.toNat_natCast]
  simp (maxSteps := 2000000) (disch := first | assumption | (refine asm_intro ?_; assumption) | exact Nat.le_add_right _ _ | exact Nat.le_refl _ | omega | (simp (disch := first | exact Nat.le_add_right _ _ | omega) only [Le_upd hb, Le_app hb, Le_rfl, free_T hb, free_upd]; done) | fail) only [go_sem, push_cast, and_pos, Le_updF, Le_upd hb, free_T hb, hk, hm]
  refine tr_st (X := Nat × Nat × ByteArray) (fun x => mtD x.1 x.2.1 x.2.2 = mtD 64 k ⟨#[]⟩ ∧ x.2.1 < 10 ^ x.1 ∧ x.2.1 ≤ k ∧ x.2.2.size + x.1 ≤ 64) (fun x => x.2.1) (fun x => [(0, .int .i64 (x.2.1 : Nat)), (3, .string x.2.2)]) (fun x => H) (64, k, ⟨#[]⟩) (⟨rfl, show k < 10 ^ 64 by omega, Nat.le_refl _, Nat.le_refl _⟩) (by simp only [go_sem, push_cast, and_pos, Le_updF]; all_goals (try simp only [Value.int.injEq, Value.slice.injEq, true_and, and_true]) <;> all_goals (try (first | trivial | omega | grind))) (by first | exact Le.refl _ | simp (disch := first | assumption | omega) only [go_sem, push_cast, and_pos, Le_updF, Le_rfl, Le_upd2]) ?_
  intro x Bx hIx hBx hbx Fx hFx
  refine vq_conv pok (E := (Env.base _)) (PL := []) (by kernel_rfl) ?_
  obtain ⟨f, j, out⟩ := x
  obtain ⟨q1, q2, q3, q4⟩ := hIx
  simp only at q1 q2 q3 q4
  by_cases hj : j = 0
  · subst hj
    simp (maxSteps := 2000000) (disch := first | assumption | (refine asm_intro ?_; assumption) | exact Nat.le_add_right _ _ | exact Nat.le_refl _ | omega | (simp (disch := first | exact Nat.le_add_right _ _ | omega) only [Le_upd hb, Le_app hb, Le_rfl, free_T hb, free_upd]; done) | fail) only [go_sem, push_cast, and_pos, Le_updF, Le_upd hb, free_T hb]
    refine vq_conv pok (E := (Env.base _)) (PL := []) (by kernel_rfl) ?_
    have e1 : mtD f 0 out = out := by cases f <;> simp [mtD]
    rw [e1] at q1
    have hs : (mtD 64 k ⟨#[]⟩).size ≤ 64 := by rw [← q1]; omega
    simp (maxSteps := 2000000) (disch := first | assumption | (refine asm_intro ?_; assumption) | exact Nat.le_add_right _ _ | exact Nat.le_refl _ | omega | (simp (disch := first | exact Nat.le_add_right _ _ | omega) only [Le_upd hb, Le_app hb, Le_rfl, free_T hb, free_upd]; done) | fail) only [go_sem, push_cast, and_pos, Le_updF, Le_upd hb, free_T hb, q1, List.size_toArray, List.length_cons, List.length_nil]
  · have t1 : ((j : Nat) : Int).tmod 10 = ((j % 10 : Nat) : Int) := rfl
    have t2 : ((j : Nat) : Int).tdiv 10 = ((j / 10 : Nat) : Int) := rfl
    have t3 : j % 10 < 10 := Nat.mod_lt _ (by decide)
    have hsz : 1 + out.size ≤ 9223372036854775807 := by omega
    simp (maxSteps := 2000000) (disch := first | assumption | (refine asm_intro ?_; assumption) | exact Nat.le_add_right _ _ | exact Nat.le_refl _ | omega | (simp (disch := first | exact Nat.le_add_right _ _ | omega) only [Le_upd hb, Le_app hb, Le_rfl, free_T hb, free_upd]; done) | fail) only [go_sem, push_cast, and_pos, Le_updF, Le_upd hb, free_T hb, hj, t1, t2, List.size_toArray, List.length_cons, List.length_nil]
    refine hFx (f - 1, j / 10, oneB ((48 + (j : Int) % 10) % 256) ++ out) _ _ _ ?_ ?_ (by first | exact Le.refl _ | simp (disch := first | assumption | omega | (simp (disch := omega) only [free_upd, free_T hb]; done)) only [go_sem, push_cast, and_pos, Le_updF, Le_rfl, Le_upd2, free_upd, free_T hb]) (by simp only [go_sem, push_cast, and_pos, Le_updF]) (by simp only [go_sem, push_cast, and_pos, Le_updF]; all_goals (try simp only [Value.int.injEq, Value.slice.injEq, true_and, and_true]) <;> all_goals (try (first | trivial | omega | grind)))
    · show j / 10 < j
      omega
    · obtain ⟨f, rfl⟩ : ∃ f', f = f' + 1 := ⟨f - 1, by
        rcases Nat.eq_zero_or_pos f with h | h
        · subst h; rw [Nat.pow_zero] at q2; omega
        · omega⟩
      rw [mtD, if_neg hj] at q1
      refine ⟨q1, ?_, show j / 10 ≤ k by omega, ?_⟩
      · rw [Nat.pow_succ] at q2
        exact Nat.div_lt_of_lt_mul (by rw [Nat.mul_comm]; exact q2)
      · show (oneB _ ++ out).size + f ≤ 64
        rw [ByteArray.size_append, show (oneB ((48 + (j : Int) % 10) % 256)).size = 1 from rfl]
        omega

def W22 : Trans := fun args H Bd K => ∃ (q : Int) (n : Nat) (l : Nat) (c : Nat), args = [.slice (some ⟨n, 0, some 1⟩) l c, .int .i64 (q)] ∧ (Yld (H n) fun b0 => (b0.own = true ∧ b0.cells.length = l * 1 ∧ 0 ≤ q ∧ q + (l * 1 : Nat) ≤ 4611686018427387904 ∧ l ≤ 281474976710656) ∧ K (.int .i64 (q + (l * 1 : Nat))) (upd H n (some ⟨flat (mkL ByteArray q l), true⟩)) Bd)
@[go_sem ↓] theorem W22_eq (n : Nat) (l : Nat) (c : Nat) (q : Int) (H : AH) (Bd : Nat) (K : Value → AH → Nat → Prop) : W22 [.slice (some ⟨n, 0, some 1⟩) l c, .int .i64 (q)] H Bd K = (Yld (H n) fun b0 => (b0.own = true ∧ b0.cells.length = l * 1 ∧ 0 ≤ q ∧ q + (l * 1 : Nat) ≤ 4611686018427387904 ∧ l ≤ 281474976710656) ∧ K (.int .i64 (q + (l * 1 : Nat))) (upd H n (some ⟨flat (mkL ByteArray q l), true⟩)) Bd) := by
  refine propext ⟨fun h => ?_, fun h => ⟨_, _, _, _, rfl, h⟩⟩
  obtain ⟨q', n', l', c', e, h⟩ := h
  skip
  simp only [List.cons.injEq, Value.agg.injEq, toArr_inj, Value.int.injEq, Value.bool.injEq, Value.string.injEq, Value.slice.injEq, Value.func.injEq, Value.pointer.injEq, Option.some.injEq, Addr.mk.injEq, lst_inj, true_and, and_true, and_assoc] at e
  obtain ⟨rfl, rfl, rfl, rfl⟩ := e
  exact h
theorem W22_ok : OK 22 W22 := by
  rintro args H Bd K ⟨q, n, l, c, rfl, ⟨cells, ow⟩, hb0, ⟨ho, hc, h1, h2, h3⟩, hK⟩
  simp only at ho hc
  subst ho
  refine fn_set pok ((Env.base _).add 41 _ W41_ok) [] _ hK (fun hh => hb_setF hh hb0 _) Tryd.func22 rfl (rs := [.tmp 4]) rfl Tryd.ntmps22 (by simp) Tryd.call22 (by kernel_rfl) (fun ha hb => .int _ _) (fun hb ha => ?_)
  have hLe := le_own hb0
  simp (maxSteps := 2000000) (disch := first | assumption | (refine asm_intro ?_; assumption) | exact Nat.le_add_right _ _ | exact Nat.le_refl _ | omega | (simp (disch := first | exact Nat.le_add_right _ _ | omega) only [Le_upd hb, Le_app hb, Le_rfl, free_T hb, free_upd]; done) | fail) only [go_sem, push_cast, and_pos, Le_updF, Le_upd hb, free_T hb, hb0]
  refine tr_st (X := Nat) (fun i => i ≤ l) (fun i => l - i) (fun i => [(0, .slice (some ⟨n, 0, some 1⟩) l c), (1, .int .i64 (q + (i * 1 : Nat))), (5, .int .i64 i)]) (fun i => upd H n (some ⟨mkC ByteArray q i cells, true⟩)) 0 (Nat.zero_le _) (by simp only [go_sem, push_cast, and_pos, Le_updF, mkC_zero, hLe, Nat.zero_mul, Int.natCast_zero, Int.add_zero]; all_goals (try simp only [Value.int.injEq, Value.slice.injEq, true_and, and_true]) <;> all_goals (try (first | trivial | omega | grind))) (by first | exact Le.refl _ | simp (disch := first | assumption | omega) only [go_sem, push_cast, and_pos, Le_updF, Le_rfl, Le_upd2, mkC_zero, hLe, Nat.zero_mul, Int.natCast_zero, Int.add_zero]) ?_
  intro i Bi hIi hBi hbi Fi hFi
  refine vq_conv pok (E := ((Env.base _).add 41 _ W41_ok)) (PL := []) (by kernel_rfl) ?_
  rcases Nat.lt_or_ge i l with hlt | hge
  · have hset : (mkC ByteArray q i cells).set i (.string (mtext (q + (i : Nat)))) = mkC ByteArray q (i + 1) cells := mkC_set1 (n := l) q cells hc hlt (by rw [Nat.mul_one]; rfl)
    have hln : (mkC ByteArray q i cells).length = cells.length := mkC_len q i cells (by rw [hc]; exact Nat.mul_le_mul_right _ hIi)
    simp (maxSteps := 2000000) (disch := first | assumption | (refine asm_intro ?_; assumption) | exact Nat.le_add_right _ _ | exact Nat.le_refl _ | omega | (simp (disch := first | exact Nat.le_add_right _ _ | omega) only [Le_upd hb, Le_app hb, Le_rfl, free_T hb, free_upd]; done) | fail) only [go_sem, push_cast, and_pos, Le_updF, Le_upd hb, free_T hb, hset, hln]
    refine hFi (i + 1) _ _ _ ?_ ?_ (by first | exact Le.refl _ | simp (disch := first | assumption | omega | (simp (disch := omega) only [free_upd, free_T hb]; done)) only [go_sem, push_cast, and_pos, Le_updF, Le_rfl, Le_upd2, free_upd, free_T hb, hset]) (by simp only [go_sem, push_cast, and_pos, Le_updF]) (by simp only [go_sem, push_cast, and_pos, Le_updF, hset]; all_goals (try simp only [Value.int.injEq, Value.slice.injEq, true_and, and_true]) <;> all_goals (try (first | trivial | omega | grind)))
    all_goals omega
  · simp (maxSteps := 2000000) (disch := first | assumption | (refine asm_intro ?_; assumption) | exact Nat.le_add_right _ _ | exact Nat.le_refl _ | omega | (simp (disch := first | exact Nat.le_add_right _ _ | omega) only [Le_upd hb, Le_app hb, Le_rfl, free_T hb, free_upd]; done) | fail) only [go_sem, push_cast, and_pos, Le_updF, Le_upd hb, free_T hb]
    obtain rfl : i = l := by omega
    rw [mkC_end q cells hc]
    refine vq_conv pok (E := ((Env.base _).add 41 _ W41_ok)) (PL := []) (by kernel_rfl) ?_
    simp (maxSteps := 2000000) (disch := first | assumption | (refine asm_intro ?_; assumption) | exact Nat.le_add_right _ _ | exact Nat.le_refl _ | omega | (simp (disch := first | exact Nat.le_add_right _ _ | omega) only [Le_upd hb, Le_app hb, Le_rfl, free_T hb, free_upd]; done) | fail) only [go_sem, push_cast, and_pos, Le_updF, Le_upd hb, free_T hb]

def W8 : Trans := fun args H Bd K => ∃ (q : Int) (s0 : Int) (n0 : Nat) (l0 : Nat) (c0 : Nat), args = [.agg #[.int .i64 (s0), .slice (some ⟨n0, 0, some 1⟩) l0 c0], .int .i64 (q)] ∧ (Yld (H n0) fun b0 => ((b0.own = true ∧ b0.cells.length = l0 * 1 ∧ l0 ≤ 281474976710656) ∧ 0 ≤ q ∧ q + (l0 * 1 : Nat) ≤ 4611686018427387904) ∧ K (.int .i64 (q + (l0 * 1 : Nat))) (upd H n0 (some ⟨flat (mkL ByteArray (q) l0), true⟩)) Bd)
@[go_sem ↓] theorem W8_eq (s0 : Int) (n0 : Nat) (l0 : Nat) (c0 : Nat) (q : Int) (H : AH) (Bd : Nat) (K : Value → AH → Nat → Prop) : W8 [.agg #[.int .i64 (s0), .slice (some ⟨n0, 0, some 1⟩) l0 c0], .int .i64 (q)] H Bd K = (Yld (H n0) fun b0 => ((b0.own = true ∧ b0.cells.length = l0 * 1 ∧ l0 ≤ 281474976710656) ∧ 0 ≤ q ∧ q + (l0 * 1 : Nat) ≤ 4611686018427387904) ∧ K (.int .i64 (q + (l0 * 1 : Nat))) (upd H n0 (some ⟨flat (mkL ByteArray (q) l0), true⟩)) Bd) := by
  refine propext ⟨fun h => ?_, fun h => ⟨_, _, _, _, _, rfl, h⟩⟩
  obtain ⟨q', s0', n0', l0', c0', e, h⟩ := h
  skip
  simp only [List.cons.injEq, Value.agg.injEq, toArr_inj, Value.int.injEq, Value.bool.injEq, Value.string.injEq, Value.slice.injEq, Value.func.injEq, Value.pointer.injEq, Option.some.injEq, Addr.mk.injEq, lst_inj, true_and, and_true, and_assoc] at e
  obtain ⟨rfl, rfl, rfl, rfl, rfl⟩ := e
  exact h
theorem W8_ok : OK 8 W8 := by
  rintro args H Bd K ⟨q, s0, n0, l0, c0, rfl, b0, hb0, ⟨hc0, h1, h2⟩, hK⟩
  refine fn_set pok ((Env.base _).add 22 _ W22_ok) [] _ hK (fun hh => (hb_setF hh hb0 _)) Tryd.func8 rfl (rs := [.tmp 4]) rfl Tryd.ntmps8 (by simp) Tryd.call8 (by kernel_rfl) (fun ha hb => .int _ _) (fun hb ha => ?_)
  have hc0_0 := hc0.1
  have hc0_1 := hc0.2.1
  have hc0_2 := hc0.2.2
  have hn0 := hb_in hb hb0
  simp (maxSteps := 2000000) (disch := first | assumption | (refine asm_intro ?_; assumption) | exact Nat.le_add_right _ _ | exact Nat.le_refl _ | omega | (simp (disch := first | exact Nat.le_add_right _ _ | omega) only [Le_upd hb, Le_app hb, Le_rfl, free_T hb, free_upd]; done) | fail) only [go_sem, push_cast, and_pos, Le_updF, Le_upd hb, free_T hb, hb0, hc0_0, hc0_1]
  repeat refine Le_mark ?_
  simp (disch := first | omega | exact Nat.le_refl _) only [Le_upd hb, Le_rfl]

def W23 : Trans := fun args H Bd K => ∃ (xs : List ByteArray) (k : Int), args = [lst (xs), .int .i64 (k)] ∧ ((sm xs ∧ 0 ≤ k ∧ k + (xs.length * 1 : Nat) ≤ 4611686018427387904 ∧ xs = mkL ByteArray k xs.length) ∧ K (.int .i64 (k + (xs.length * 1 : Nat))) H Bd)
@[go_sem ↓] theorem W23_eq (xs : List ByteArray) (k : Int) (H : AH) (Bd : Nat) (K : Value → AH → Nat → Prop) : W23 [lst (xs), .int .i64 (k)] H Bd K = ((sm xs ∧ 0 ≤ k ∧ k + (xs.length * 1 : Nat) ≤ 4611686018427387904 ∧ xs = mkL ByteArray k xs.length) ∧ K (.int .i64 (k + (xs.length * 1 : Nat))) H Bd) := by
  refine propext ⟨fun h => ?_, fun h => ⟨_, _, rfl, h⟩⟩
  obtain ⟨xs', k', e, h⟩ := h
  skip
  skip
  simp only [List.cons.injEq, Value.agg.injEq, toArr_inj, Value.int.injEq, Value.bool.injEq, Value.string.injEq, Value.slice.injEq, Value.func.injEq, Value.pointer.injEq, Option.some.injEq, Addr.mk.injEq, lst_inj, true_and, and_true] at e
  obtain ⟨rfl, rfl⟩ := e
  exact h
theorem W23_ok : OK 23 W23 := by
  rintro args H Bd K ⟨xs, k, rfl, hpre, hK⟩
  refine fn_pure pok ((Env.base _).add 41 _ W41_ok) [(4, [0,1,2,3,4,5,6], [⟨0, [], []⟩, ⟨1, [], []⟩, ⟨2, [], []⟩, ⟨3, [], []⟩, ⟨4, [], []⟩, ⟨5, [], [3]⟩, ⟨6, [], []⟩], .nil)] _ hK Tryd.func23 rfl (rs := [.tmp 4]) rfl Tryd.ntmps23 (by simp) Tryd.call23 (by kernel_rfl) (fun ha hb => .int _ _) (fun hb ha => ?_)
  obtain ⟨h1, h2, h3, h4⟩ := hpre
  have hlen := sm_len h1
  simp (maxSteps := 2000000) (disch := first | assumption | (refine asm_intro ?_; assumption) | exact Nat.le_add_right _ _ | exact Nat.le_refl _ | omega | (simp (disch := first | exact Nat.le_add_right _ _ | omega) only [Le_upd hb, Le_app hb, Le_rfl, free_T hb, free_upd]; done) | fail) only [go_sem, push_cast, and_pos, Le_updF, Le_upd hb, free_T hb]
  refine tr_for (fun i => True) (xs.length) (fun i => [(0, lst xs), (1, .int .i64 (k + (i * 1 : Nat))), (5, .int .i64 i)]) (trivial) (by simp only [go_sem, push_cast, and_pos, Le_updF, Int.zero_mul, Int.add_zero]) ?_
  intro i Bi hIi hii hBi
  refine vq_conv pok (E := ((Env.base _).add 41 _ W41_ok)) (PL := [(4, [0,1,2,3,4,5,6], [⟨0, [], []⟩, ⟨1, [], []⟩, ⟨2, [], []⟩, ⟨3, [], []⟩, ⟨4, [], []⟩, ⟨5, [], [3]⟩, ⟨6, [], []⟩], .nil)]) (by kernel_rfl) ?_
  rcases Nat.lt_or_ge i (xs.length) with hlti | hgei
  · have e1 : xs[i]? = some (mtext (k + (i : Int))) := by
      rw [h4, mkL_get k hlti]; first | rfl | (rw [Nat.mul_one]; rfl)
    simp (maxSteps := 2000000) (disch := first | assumption | (refine asm_intro ?_; assumption) | exact Nat.le_add_right _ _ | exact Nat.le_refl _ | omega | (simp (disch := first | exact Nat.le_add_right _ _ | omega) only [Le_upd hb, Le_app hb, Le_rfl, free_T hb, free_upd]; done) | fail) only [go_sem, push_cast, and_pos, Le_updF, Le_upd hb, free_T hb, e1]
  · simp (maxSteps := 2000000) (disch := first | assumption | (refine asm_intro ?_; assumption) | exact Nat.le_add_right _ _ | exact Nat.le_refl _ | omega | (simp (disch := first | exact Nat.le_add_right _ _ | omega) only [Le_upd hb, Le_app hb, Le_rfl, free_T hb, free_upd]; done) | fail) only [go_sem, push_cast, and_pos, Le_updF, Le_upd hb, free_T hb]
    obtain rfl : i = xs.length := by omega
    refine vq_conv pok (E := ((Env.base _).add 41 _ W41_ok)) (PL := [(4, [0,1,2,3,4,5,6], [⟨0, [], []⟩, ⟨1, [], []⟩, ⟨2, [], []⟩, ⟨3, [], []⟩, ⟨4, [], []⟩, ⟨5, [], [3]⟩, ⟨6, [], []⟩], .nil)]) (by kernel_rfl) ?_
    simp (maxSteps := 2000000) (disch := first | assumption | (refine asm_intro ?_; assumption) | exact Nat.le_add_right _ _ | exact Nat.le_refl _ | omega | (simp (disch := first | exact Nat.le_add_right _ _ | omega) only [Le_upd hb, Le_app hb, Le_rfl, free_T hb, free_upd]; done) | fail) only [go_sem, push_cast, and_pos, Le_updF, Le_upd hb, free_T hb]

def W9 : Trans := fun args H Bd K => ∃ (x : GWordsResult) (k : Int), args = [.agg (enc (x)).toArray, .int .i64 (k)] ∧ ((sm x ∧ 0 ≤ k ∧ k + (x.words.length * 1 : Nat) ≤ 4611686018427387904 ∧ x.words = mkL ByteArray (k) x.words.length) ∧ K (.int .i64 (k + (x.words.length * 1 : Nat))) H Bd)
@[go_sem ↓] theorem W9_eq (x_code : Int) (x_words : List ByteArray) (k : Int) (H : AH) (Bd : Nat) (K : Value → AH → Nat → Prop) : W9 [.agg #[.int .i64 (x_code), lst (x_words)], .int .i64 (k)] H Bd K = ((sm (GWordsResult.mk x_code x_words) ∧ 0 ≤ k ∧ k + ((GWordsResult.mk x_code x_words).words.length * 1 : Nat) ≤ 4611686018427387904 ∧ (GWordsResult.mk x_code x_words).words = mkL ByteArray (k) (GWordsResult.mk x_code x_words).words.length) ∧ K (.int .i64 (k + ((GWordsResult.mk x_code x_words).words.length * 1 : Nat))) H Bd) := by
  refine propext ⟨fun h => ?_, fun h => ⟨_, _, rfl, h⟩⟩
  obtain ⟨x', k', e, h⟩ := h
  obtain ⟨xcode', xwords'⟩ := x'
  skip
  simp only [enc_GWordsResult, List.cons.injEq, Value.agg.injEq, toArr_inj, Value.int.injEq, Value.bool.injEq, Value.string.injEq, Value.slice.injEq, Value.func.injEq, Value.pointer.injEq, Option.some.injEq, Addr.mk.injEq, lst_inj, true_and, and_true] at e
  obtain ⟨⟨rfl, rfl⟩, rfl⟩ := e
  exact h
theorem W9_ok : OK 9 W9 := by
  rintro args H Bd K ⟨x, k, rfl, hpre, hK⟩
  refine fn_pure pok ((Env.base _).add 23 _ W23_ok) [] _ hK Tryd.func9 rfl (rs := [.tmp 4]) rfl Tryd.ntmps9 (by simp) Tryd.call9 (by kernel_rfl) (fun ha hb => .int _ _) (fun hb ha => ?_)
  obtain ⟨h1, h2, h3, h4⟩ := hpre
  simp only [sm_GWordsResult] at h1
  have hneg : ∀ z : Int, 0 ≤ z → (z < 0) = False := fun z h => eq_false (by omega)
  simp (maxSteps := 2000000) (disch := first | assumption | (refine asm_intro ?_; assumption) | exact Nat.le_add_right _ _ | exact Nat.le_refl _ | omega | (simp (disch := first | exact Nat.le_add_right _ _ | omega) only [Le_upd hb, Le_app hb, Le_rfl, free_T hb, free_upd]; done) | fail) only [go_sem, push_cast, and_pos, Le_updF, Le_upd hb, free_T hb, h1, eq_true h4]

theorem L9_pure : PureV W9 := by
  rintro args H Bd K ⟨x0, x1, rfl, hpre, hK⟩
  exact ⟨_, by first | exact .bool _ | exact .int _ _ | exact .string _, hK, fun H' K' hs h => ⟨x0, x1, rfl, hpre, h⟩⟩
def L9 : Trans := LendA W9
@[go_sem ↓] theorem L9_eq (v0 v1 : Value) (H : AH) (Bd : Nat) (K : Value → AH → Nat → Prop) : L9 [v0, v1] H Bd K = callW W9 (idS [giveA H v0, giveA H v1]) H Bd K := (rfl)
theorem L9_ok : OK 9 L9 := LendA_ok W9_ok L9_pure

def W3 : Trans := fun args H Bd K => ∃ (aLine : ByteArray), args = [.string (aLine)] ∧ ((sm aLine ∧ PT H ∧ GP < Bd) ∧ K (.bool (true)) H Bd)
@[go_sem ↓] theorem W3_eq (aLine : ByteArray) (H : AH) (Bd : Nat) (K : Value → AH → Nat → Prop) : W3 [.string (aLine)] H Bd K = ((sm aLine ∧ PT H ∧ GP < Bd) ∧ K (.bool (true)) H Bd) := by
  refine propext ⟨fun h => ?_, fun h => ⟨_, rfl, h⟩⟩
  obtain ⟨aLine', e, h⟩ := h
  skip
  simp only [List.cons.injEq, Value.agg.injEq, toArr_inj, Value.int.injEq, Value.bool.injEq, Value.string.injEq, Value.slice.injEq, Value.func.injEq, Value.pointer.injEq, Option.some.injEq, Addr.mk.injEq, lst_inj, true_and, and_true] at e
  obtain rfl := e
  exact h
set_option maxHeartbeats 2000000 in
theorem W3_ok : OK 3 W3 := by
  rintro args H Bd K ⟨aLine, rfl, hpre, hK⟩
  refine fn_pure pok ((((((Env.base _).add 5 _ W5_ok).add 6 _ W6_ok).add 7 _ L7_ok).add 8 _ W8_ok).add 9 _ L9_ok) [] _ hK Tryd.func3 rfl (rs := [.tmp 2]) rfl Tryd.ntmps3 (by simp) Tryd.call3 (by kernel_rfl) (fun ha hb => .bool _) (fun hb ha => ?_)
  obtain ⟨h1, h2, h3⟩ := hpre
  by_cases hc : aLine.size > 1048576
  · simp (maxSteps := 2000000) (disch := first | assumption | (refine asm_intro ?_; assumption) | exact Nat.le_add_right _ _ | exact Nat.le_refl _ | omega | (simp (disch := first | exact Nat.le_add_right _ _ | omega) only [Le_upd hb, Le_app hb, Le_rfl, free_T hb, free_upd]; done) | fail) only [go_sem, push_cast, and_pos, Le_updF, Le_upd hb, free_T hb, hc]
  obtain ⟨g1, g2⟩ := wordsR_sm (s := aLine) (by omega)
  have g3 : sm (mkL ByteArray 1 (wordsR aLine).words.length) := mkL_sm 1 (by omega)
  have g4 : sm (⟨(wordsR aLine).code, mkL ByteArray 1 (wordsR aLine).words.length⟩ : GWordsResult) := ⟨trivial, g3⟩
  simp (maxSteps := 2000000) (disch := first | assumption | (refine asm_intro ?_; assumption) | exact Nat.le_add_right _ _ | exact Nat.le_refl _ | omega | (simp (disch := first | exact Nat.le_add_right _ _ | omega) only [Le_upd hb, Le_app hb, Le_rfl, free_T hb, free_upd]; done) | fail) only [go_sem, push_cast, and_pos, Le_updF, Le_upd hb, free_T hb, hc, h1, h2, g1, g4]

end Go.Proofs.YthhcemhignihlaaDoor
