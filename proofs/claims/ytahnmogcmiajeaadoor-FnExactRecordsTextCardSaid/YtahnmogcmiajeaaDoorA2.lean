/- YtahnmogcmiajeaaDoorA2 -/
import Derived.Test.YtahnmogcmiajeaaDoorA1
set_option linter.unusedSimpArgs false
set_option linter.unusedVariables false
set_option maxRecDepth 20000
namespace Go.Proofs.YtahnmogcmiajeaaDoor
open Go Go.SC
def W41 : Trans := fun args H Bd K => ∃ (x : GSymbol), args = [.agg (enc (x)).toArray] ∧ (K (.bool (decide (x.arity = 0))) H Bd)
@[go_sem ↓] theorem W41_eq (x_name : ByteArray) (x_arity : Int) (H : AH) (Bd : Nat) (K : Value → AH → Nat → Prop) : W41 [.agg #[.string (x_name), .int .i64 (x_arity)]] H Bd K = (K (.bool (decide ((GSymbol.mk x_name x_arity).arity = 0))) H Bd) := by
  refine propext ⟨fun h => ?_, fun h => ⟨_, rfl, h⟩⟩
  obtain ⟨x', e, h⟩ := h
  obtain ⟨xname', xarity'⟩ := x'
  simp only [enc_GSymbol, List.cons.injEq, Value.agg.injEq, toArr_inj, Value.int.injEq, Value.bool.injEq, Value.string.injEq, Value.slice.injEq, Value.pointer.injEq, Option.some.injEq, Addr.mk.injEq, lst_inj, true_and, and_true] at e
  obtain ⟨rfl, rfl⟩ := e
  exact h
theorem W41_ok : OK 41 W41 := by
  rintro args H Bd K ⟨x, rfl, hK⟩
  refine fn_pure pok (Env.base _) [] _ hK Tryd.func41 rfl (rs := [.tmp 2]) rfl Tryd.ntmps41 (by simp) Tryd.call41 (by kernel_rfl) (fun ha hb => .bool _) (fun hb ha => ?_)
  simp (maxSteps := 2000000) (disch := first | assumption | (refine asm_intro ?_; assumption) | exact Nat.le_add_right _ _ | exact Nat.le_refl _ | omega | (simp (disch := first | exact Nat.le_add_right _ _ | omega) only [Le_upd hb, Le_rfl, free_T hb, free_upd]; done) | fail) only [go_sem, push_cast, and_pos, Le_updF, Le_upd hb, free_T hb]
def V40_41 : Trans := fun args H Bd K => ∃ (xs : List GSymbol), args = [lst (xs)] ∧ ((sm xs) ∧ K (.bool (xs.any (fun x : GSymbol => decide (x.arity = 0)))) H Bd)
@[go_sem ↓] theorem V40_41_eq (xs : List GSymbol) (H : AH) (Bd : Nat) (K : Value → AH → Nat → Prop) : V40_41 [lst (xs)] H Bd K = ((sm xs) ∧ K (.bool (xs.any (fun x : GSymbol => decide (x.arity = 0)))) H Bd) := by
  refine propext ⟨fun h => ?_, fun h => ⟨_, rfl, h⟩⟩
  obtain ⟨xs', e, h⟩ := h
  skip
  simp only [List.cons.injEq, Value.agg.injEq, toArr_inj, Value.int.injEq, Value.bool.injEq, Value.string.injEq, Value.slice.injEq, Value.pointer.injEq, Option.some.injEq, Addr.mk.injEq, lst_inj, true_and, and_true] at e
  obtain rfl := e
  exact h
def W40_41 : Trans := fun args H Bd K => ∃ (vxs : Value), args = [vxs, .func (.func 41) #[] #[]] ∧ callW V40_41 [vxs] H Bd K
@[go_sem ↓] theorem W40_41_eq (vxs : Value) (H : AH) (Bd : Nat) (K : Value → AH → Nat → Prop) : W40_41 [vxs, .func (.func 41) #[] #[]] H Bd K = (callW V40_41 (idS [vxs]) H Bd K) := by
  refine propext ⟨fun h => ?_, fun h => ⟨_, rfl, h⟩⟩
  obtain ⟨vxs', e, h⟩ := h
  simp only [List.cons.injEq, Value.func.injEq, toArr_inj, List.cons.injEq, and_true, true_and] at e
  obtain rfl := e
  exact h
theorem W40_41_ok : OK 40 W40_41 := by
  rintro args H Bd K ⟨vxs, rfl, h⟩
  obtain ⟨xs, e, hpre, hK⟩ := h
  simp only [List.cons.injEq, and_true] at e
  obtain rfl := e
  refine G40 41 #[] (fun x : GSymbol => decide (x.arity = 0)) xs H Bd K hpre (fun x hx B hB K' hk => ?_) hK
  exact W41_ok _ _ _ _ ⟨x, rfl, hk⟩
def W21 : Trans := fun args H Bd K => ∃ (s : GSignature), args = [.agg (enc (s)).toArray] ∧ ((sm s) ∧ K (.int .i64 (sigF s)) H Bd)
@[go_sem ↓] theorem W21_eq (s_symbols : List GSymbol) (H : AH) (Bd : Nat) (K : Value → AH → Nat → Prop) : W21 [.agg #[lst (s_symbols)]] H Bd K = ((sm (GSignature.mk s_symbols)) ∧ K (.int .i64 (sigF (GSignature.mk s_symbols))) H Bd) := by
  refine propext ⟨fun h => ?_, fun h => ⟨_, rfl, h⟩⟩
  obtain ⟨s', e, h⟩ := h
  obtain ⟨ssymbols'⟩ := s'
  simp only [enc_GSignature, List.cons.injEq, Value.agg.injEq, toArr_inj, Value.int.injEq, Value.bool.injEq, Value.string.injEq, Value.slice.injEq, Value.pointer.injEq, Option.some.injEq, Addr.mk.injEq, lst_inj, true_and, and_true] at e
  obtain rfl := e
  exact h
set_option maxHeartbeats 2000000 in
theorem W21_ok : OK 21 W21 := by
  rintro args H Bd K ⟨s, rfl, hpre, hK⟩
  refine fn_pure pok (((((Env.base _).add 38 _ W38_ok).add 23 _ W23_ok).add 39 _ W39_ok).add 40 _ W40_41_ok) [(1, [], [], (.k 5 (.grp false 11 15 4 [12, 13, 14, 15] 16 none (.k 4 .nil) .nil)))] _ hK Tryd.func21 rfl (rs := [.tmp 2]) rfl Tryd.ntmps21 (by simp) Tryd.call21 (by kernel_rfl) (fun ha hb => .int _ _) (fun hb ha => ?_)
  simp only [sm_GSignature] at hpre
  have hlen := sm_len hpre
  have hss : sm s := hpre
  simp (maxSteps := 2000000) (disch := first | assumption | (refine asm_intro ?_; assumption) | exact Nat.le_add_right _ _ | exact Nat.le_refl _ | omega | (simp (disch := first | exact Nat.le_add_right _ _ | omega) only [Le_upd hb, Le_rfl, free_T hb, free_upd]; done) | fail) only [go_sem, push_cast, and_pos, Le_updF, Le_upd hb, free_T hb]
  refine ⟨fun h => by unfold sigF; rw [if_pos (by omega)], fun h1 h2 => ?_⟩
  have hs : sigF s = sigG s := by unfold sigF; rw [if_neg (by omega)]
  rw [hs]
  refine tr_for (fun i => symL (s.symbols.drop i) = symL s.symbols) (s.symbols.length) (fun i => [(1, .pointer (some ⟨Bd, 0, none⟩)), (18, lst s.symbols), (19, .int .i64 s.symbols.length), (20, .int .i64 i)]) (by simp) (by simp only [go_sem, push_cast, and_pos, Le_updF]) ?_
  intro i Bi hIi hii hBi
  refine vq_conv pok (E := (((((Env.base _).add 38 _ W38_ok).add 23 _ W23_ok).add 39 _ W39_ok).add 40 _ W40_41_ok)) (PL := [(1, [], [], (.k 5 (.grp false 11 15 4 [12, 13, 14, 15] 16 none (.k 4 .nil) .nil)))]) (by kernel_rfl) ?_
  rcases Nat.lt_or_ge i (s.symbols.length) with hlti | hgei
  · have e1 : s.symbols[i]? = some s.symbols[i] := List.getElem?_eq_getElem hlti
    have hd := List.drop_eq_getElem_cons hlti
    have hx := sm_mem hpre (List.getElem_mem hlti)
    simp only [sm_GSymbol, sm_str, sm_int, and_true] at hx
    rw [hd, symL] at hIi
    simp (maxSteps := 2000000) (disch := first | assumption | (refine asm_intro ?_; assumption) | exact Nat.le_add_right _ _ | exact Nat.le_refl _ | omega | (simp (disch := first | exact Nat.le_add_right _ _ | omega) only [Le_upd hb, Le_rfl, free_T hb, free_upd]; done) | fail) only [go_sem, push_cast, and_pos, Le_updF, Le_upd hb, free_T hb, e1, hx]
    generalize symL (List.drop (i + 1) s.symbols) = q at *
    unfold sigG
    all_goals first | done | trivial | ((try simp only [Cnp, Imp]); grind)
  · simp (maxSteps := 2000000) (disch := first | assumption | (refine asm_intro ?_; assumption) | exact Nat.le_add_right _ _ | exact Nat.le_refl _ | omega | (simp (disch := first | exact Nat.le_add_right _ _ | omega) only [Le_upd hb, Le_rfl, free_T hb, free_upd]; done) | fail) only [go_sem, push_cast, and_pos, Le_updF, Le_upd hb, free_T hb]
    refine vq_conv pok (E := (((((Env.base _).add 38 _ W38_ok).add 23 _ W23_ok).add 39 _ W39_ok).add 40 _ W40_41_ok)) (PL := [(1, [], [], (.k 5 (.grp false 11 15 4 [12, 13, 14, 15] 16 none (.k 4 .nil) .nil)))]) (by kernel_rfl) ?_
    simp (maxSteps := 2000000) (disch := first | assumption | (refine asm_intro ?_; assumption) | exact Nat.le_add_right _ _ | exact Nat.le_refl _ | omega | (simp (disch := first | exact Nat.le_add_right _ _ | omega) only [Le_upd hb, Le_rfl, free_T hb, free_upd]; done) | fail) only [go_sem, push_cast, and_pos, Le_updF, Le_upd hb, free_T hb]
    have h0 : symL s.symbols = 0 := by rw [← hIi, List.drop_of_length_le hgei]; rfl
    refine tr_for (fun j => ∀ a b x y, b < a → a < j → s.symbols[a]? = some x → s.symbols[b]? = some y → x.name ≠ y.name) (s.symbols.length) (fun j => [(1, .pointer (some ⟨Bd, 0, none⟩)), (34, lst s.symbols), (35, .int .i64 s.symbols.length), (36, .int .i64 j)]) (by simp) (by simp only [go_sem, push_cast, and_pos, Le_updF]) ?_
    intro j Bj hIj hij hBj
    refine vq_conv pok (E := (((((Env.base _).add 38 _ W38_ok).add 23 _ W23_ok).add 39 _ W39_ok).add 40 _ W40_41_ok)) (PL := [(1, [], [], (.k 5 (.grp false 11 15 4 [12, 13, 14, 15] 16 none (.k 4 .nil) .nil)))]) (by kernel_rfl) ?_
    rcases Nat.lt_or_ge j (s.symbols.length) with hltj | hgej
    · have e1 : s.symbols[j]? = some s.symbols[j] := List.getElem?_eq_getElem hltj
      simp (maxSteps := 2000000) (disch := first | assumption | (refine asm_intro ?_; assumption) | exact Nat.le_add_right _ _ | exact Nat.le_refl _ | omega | (simp (disch := first | exact Nat.le_add_right _ _ | omega) only [Le_upd hb, Le_rfl, free_T hb, free_upd]; done) | fail) only [go_sem, push_cast, and_pos, Le_updF, Le_upd hb, free_T hb, e1, hss]
      refine ⟨fun h => ?_, fun h => ?_⟩
      · intro a b x y h1 h2 h3 h4
        by_cases e : a = j
        · subst e
          rw [e1] at h3; cases h3
          rw [List.getElem?_eq_getElem (by omega)] at h4; cases h4
          exact (((symIdx_self hltj).1 h) b h1).symm
        · exact hIj a b x y h1 (by omega) h3 h4
      · have : ¬ (s.symbols.map (·.name)).Nodup := fun hn => h ((symIdx_self hltj).2 fun k hk e => nodup_map_not (f := (·.name)) hk hltj e.symm hn)
        unfold sigG
        rw [if_neg (by simp [h0]), if_pos this]
    · simp (maxSteps := 2000000) (disch := first | assumption | (refine asm_intro ?_; assumption) | exact Nat.le_add_right _ _ | exact Nat.le_refl _ | omega | (simp (disch := first | exact Nat.le_add_right _ _ | omega) only [Le_upd hb, Le_rfl, free_T hb, free_upd]; done) | fail) only [go_sem, push_cast, and_pos, Le_updF, Le_upd hb, free_T hb]
      refine vq_conv pok (E := (((((Env.base _).add 38 _ W38_ok).add 23 _ W23_ok).add 39 _ W39_ok).add 40 _ W40_41_ok)) (PL := [(1, [], [], (.k 5 (.grp false 11 15 4 [12, 13, 14, 15] 16 none (.k 4 .nil) .nil)))]) (by kernel_rfl) ?_
      simp (maxSteps := 2000000) (disch := first | assumption | (refine asm_intro ?_; assumption) | exact Nat.le_add_right _ _ | exact Nat.le_refl _ | omega | (simp (disch := first | exact Nat.le_add_right _ _ | omega) only [Le_upd hb, Le_rfl, free_T hb, free_upd]; done) | fail) only [go_sem, push_cast, and_pos, Le_updF, Le_upd hb, free_T hb, hpre]
      have h7 : (s.symbols.map (·.name)).Nodup := nodup_map fun i j x y h1 h2 h3 h4 => hIj i j x y h1 (by omega) h3 h4
      unfold sigG
      rw [if_neg (by simp [h0]), if_neg (by simp [h7])]
      all_goals first | done | trivial | ((try simp only [Cnp, Imp]); grind)
theorem G57 (g : Nat) (caps : Array Value) (p : Int → Bool) (xs : List Int) (H : AH) (Bd : Nat) (K : Value → AH → Nat → Prop) (hsm : sm xs) (hg : ∀ x ∈ xs, ∀ B, Bd ≤ B → ∀ K' : Value → AH → Nat → Prop, K' (.bool (p x)) H B → SCalls Tryd.prog g (idS ((.int .i64 (x)) :: caps.toList)) H B K') (hK : K (.int .i64 (fidx p xs)) H Bd) : SCalls Tryd.prog 57 [lst xs, .func (.func g) #[] caps] H Bd K := by
  refine fn_pure pok (Env.base _) [] _ hK Tryd.func57 rfl (rs := [.tmp 4]) rfl Tryd.ntmps57 (by simp) Tryd.call57 (by kernel_rfl) (fun ha hb => .int _ _) (fun hb ha => ?_)
  have hlen := sm_len hsm
  simp (maxSteps := 2000000) (disch := first | assumption | (refine asm_intro ?_; assumption) | exact Nat.le_add_right _ _ | exact Nat.le_refl _ | omega | (simp (disch := first | exact Nat.le_add_right _ _ | omega) only [Le_upd hb, Le_rfl, free_T hb, free_upd]; done) | fail) only [go_sem, push_cast, and_pos, Le_updF, Le_upd hb, free_T hb]
  refine tr_for (fun i => ∀ j, j < i → ∀ x, xs[j]? = some x → p x = false) (xs.length) (fun i => [(0, lst xs), (1, .func (.func g) #[] caps), (7, .int .i64 xs.length), (8, .int .i64 i)]) (by simp) (by simp only [go_sem, push_cast, and_pos, Le_updF]) ?_
  intro i Bi hIi hii hBi
  refine vq_conv pok (E := (Env.base _)) (PL := []) (by kernel_rfl) ?_
  rcases Nat.lt_or_ge i (xs.length) with hlti | hgei
  · have e1 : xs[i]? = some xs[i] := List.getElem?_eq_getElem hlti
    simp (maxSteps := 2000000) (disch := first | assumption | (refine asm_intro ?_; assumption) | exact Nat.le_add_right _ _ | exact Nat.le_refl _ | omega | (simp (disch := first | exact Nat.le_add_right _ _ | omega) only [Le_upd hb, Le_rfl, free_T hb, free_upd]; done) | fail) only [go_sem, push_cast, and_pos, Le_updF, Le_upd hb, free_T hb, e1]
    refine hg _ (List.getElem_mem hlti) _ (by omega) _ ?_
    simp (maxSteps := 2000000) (disch := first | assumption | (refine asm_intro ?_; assumption) | exact Nat.le_add_right _ _ | exact Nat.le_refl _ | omega | (simp (disch := first | exact Nat.le_add_right _ _ | omega) only [Le_upd hb, Le_rfl, free_T hb, free_upd]; done) | fail) only [go_sem, push_cast, and_pos, Le_updF, Le_upd hb, free_T hb, e1]
    exact ⟨fun h => by rw [fidx_hit hlti hIi h], fun h => fun j hj x hx => by
      by_cases e : j = i
      · subst e; rw [e1] at hx; cases hx; simpa using h
      · exact hIi j (by omega) x hx⟩
  · simp (maxSteps := 2000000) (disch := first | assumption | (refine asm_intro ?_; assumption) | exact Nat.le_add_right _ _ | exact Nat.le_refl _ | omega | (simp (disch := first | exact Nat.le_add_right _ _ | omega) only [Le_upd hb, Le_rfl, free_T hb, free_upd]; done) | fail) only [go_sem, push_cast, and_pos, Le_updF, Le_upd hb, free_T hb]
    refine vq_conv pok (E := (Env.base _)) (PL := []) (by kernel_rfl) ?_
    simp (maxSteps := 2000000) (disch := first | assumption | (refine asm_intro ?_; assumption) | exact Nat.le_add_right _ _ | exact Nat.le_refl _ | omega | (simp (disch := first | exact Nat.le_add_right _ _ | omega) only [Le_upd hb, Le_rfl, free_T hb, free_upd]; done) | fail) only [go_sem, push_cast, and_pos, Le_updF, Le_upd hb, free_T hb]
    rw [fidx_none fun j hj x hx => hIi j (by omega) x hx]
theorem G42 (g : Nat) (caps : Array Value) (p : Int → Bool) (xs : List Int) (H : AH) (Bd : Nat) (K : Value → AH → Nat → Prop) (hsm : sm xs) (hg : ∀ x ∈ xs, ∀ B, Bd ≤ B → ∀ K' : Value → AH → Nat → Prop, K' (.bool (p x)) H B → SCalls Tryd.prog g (idS ((.int .i64 (x)) :: caps.toList)) H B K') (hK : K (.bool (xs.any p)) H Bd) : SCalls Tryd.prog 42 [lst xs, .func (.func g) #[] caps] H Bd K := by
  refine fn_pure pok (Env.base _) [] _ hK Tryd.func42 rfl (rs := [.tmp 4]) rfl Tryd.ntmps42 (by simp) Tryd.call42 (by kernel_rfl) (fun ha hb => .bool _) (fun hb ha => ?_)
  simp (maxSteps := 2000000) (disch := first | assumption | (refine asm_intro ?_; assumption) | exact Nat.le_add_right _ _ | exact Nat.le_refl _ | omega | (simp (disch := first | exact Nat.le_add_right _ _ | omega) only [Le_upd hb, Le_rfl, free_T hb, free_upd]; done) | fail) only [go_sem, push_cast, and_pos, Le_updF, Le_upd hb, free_T hb]
  refine G57 _ _ p xs _ _ _ hsm hg ?_
  simp (maxSteps := 2000000) (disch := first | assumption | (refine asm_intro ?_; assumption) | exact Nat.le_add_right _ _ | exact Nat.le_refl _ | omega | (simp (disch := first | exact Nat.le_add_right _ _ | omega) only [Le_upd hb, Le_rfl, free_T hb, free_upd]; done) | fail) only [go_sem, push_cast, and_pos, Le_updF, Le_upd hb, free_T hb]
  exact fidx_ge p xs
def W58 : Trans := fun args H Bd K => ∃ (s : GSignature) (n : Int), args = [.agg (enc (s)).toArray, .int .i64 (n)] ∧ ((sm s ∧ R64 n) ∧ K (.bool (isSym s n)) H Bd)
@[go_sem ↓] theorem W58_eq (s_symbols : List GSymbol) (n : Int) (H : AH) (Bd : Nat) (K : Value → AH → Nat → Prop) : W58 [.agg #[lst (s_symbols)], .int .i64 (n)] H Bd K = ((sm (GSignature.mk s_symbols) ∧ R64 n) ∧ K (.bool (isSym (GSignature.mk s_symbols) n)) H Bd) := by
  refine propext ⟨fun h => ?_, fun h => ⟨_, _, rfl, h⟩⟩
  obtain ⟨s', n', e, h⟩ := h
  obtain ⟨ssymbols'⟩ := s'
  skip
  simp only [enc_GSignature, List.cons.injEq, Value.agg.injEq, toArr_inj, Value.int.injEq, Value.bool.injEq, Value.string.injEq, Value.slice.injEq, Value.pointer.injEq, Option.some.injEq, Addr.mk.injEq, lst_inj, true_and, and_true] at e
  obtain ⟨rfl, rfl⟩ := e
  exact h
theorem W58_ok : OK 58 W58 := by
  rintro args H Bd K ⟨s, n, rfl, hpre, hK⟩
  refine fn_pure pok ((Env.base _).add 23 _ W23_ok) [] _ hK Tryd.func58 rfl (rs := [.tmp 4]) rfl Tryd.ntmps58 (by simp) Tryd.call58 (by kernel_rfl) (fun ha hb => .bool _) (fun hb ha => ?_)
  obtain ⟨h1, h2⟩ := hpre
  simp only [sm_GSignature] at h1
  have hlen := sm_len h1
  simp (maxSteps := 2000000) (disch := first | assumption | (refine asm_intro ?_; assumption) | exact Nat.le_add_right _ _ | exact Nat.le_refl _ | omega | (simp (disch := first | exact Nat.le_add_right _ _ | omega) only [Le_upd hb, Le_rfl, free_T hb, free_upd]; done) | fail) only [go_sem, push_cast, and_pos, Le_updF, Le_upd hb, free_T hb]
  unfold isSym
  all_goals first | done | trivial | ((try simp only [Cnp, Imp]); grind)
def W44 : Trans := fun args H Bd K => ∃ (s : GSignature) (n : Int), args = [.agg (enc (s)).toArray, .int .i64 (n)] ∧ ((sm s ∧ R64 n) ∧ K (.bool (isNode s n)) H Bd)
@[go_sem ↓] theorem W44_eq (s_symbols : List GSymbol) (n : Int) (H : AH) (Bd : Nat) (K : Value → AH → Nat → Prop) : W44 [.agg #[lst (s_symbols)], .int .i64 (n)] H Bd K = ((sm (GSignature.mk s_symbols) ∧ R64 n) ∧ K (.bool (isNode (GSignature.mk s_symbols) n)) H Bd) := by
  refine propext ⟨fun h => ?_, fun h => ⟨_, _, rfl, h⟩⟩
  obtain ⟨s', n', e, h⟩ := h
  obtain ⟨ssymbols'⟩ := s'
  skip
  simp only [enc_GSignature, List.cons.injEq, Value.agg.injEq, toArr_inj, Value.int.injEq, Value.bool.injEq, Value.string.injEq, Value.slice.injEq, Value.pointer.injEq, Option.some.injEq, Addr.mk.injEq, lst_inj, true_and, and_true] at e
  obtain ⟨rfl, rfl⟩ := e
  exact h
theorem W44_ok : OK 44 W44 := by
  rintro args H Bd K ⟨s, n, rfl, hpre, hK⟩
  refine fn_pure pok (((Env.base _).add 58 _ W58_ok).add 23 _ W23_ok) [(1, [], [], (.k 4 (.grp false 8 10 2 [9, 10] 11 none (.k 2 .nil) (.k 1 .nil))))] _ hK Tryd.func44 rfl (rs := [.tmp 4]) rfl Tryd.ntmps44 (by simp) Tryd.call44 (by kernel_rfl) (fun ha hb => .bool _) (fun hb ha => ?_)
  obtain ⟨h1, h2⟩ := hpre
  simp (maxSteps := 2000000) (disch := first | assumption | (refine asm_intro ?_; assumption) | exact Nat.le_add_right _ _ | exact Nat.le_refl _ | omega | (simp (disch := first | exact Nat.le_add_right _ _ | omega) only [Le_upd hb, Le_rfl, free_T hb, free_upd]; done) | fail) only [go_sem, push_cast, and_pos, Le_updF, Le_upd hb, free_T hb, h1, h2]
  simp [isNode]
def V43 : Trans := fun args H Bd K => ∃ (n : Int) (s : GSignature), args = [.int .i64 (n), .agg (enc (s)).toArray] ∧ ((sm s ∧ R64 n) ∧ K (.bool (!isNode s n)) H Bd)
@[go_sem ↓] theorem V43_eq (n : Int) (s_symbols : List GSymbol) (H : AH) (Bd : Nat) (K : Value → AH → Nat → Prop) : V43 [.int .i64 (n), .agg #[lst (s_symbols)]] H Bd K = ((sm (GSignature.mk s_symbols) ∧ R64 n) ∧ K (.bool (!isNode (GSignature.mk s_symbols) n)) H Bd) := by
  refine propext ⟨fun h => ?_, fun h => ⟨_, _, rfl, h⟩⟩
  obtain ⟨n', s', e, h⟩ := h
  skip
  obtain ⟨ssymbols'⟩ := s'
  simp only [enc_GSignature, enc_int, enc_str, enc_list, enc_bool, enc_byte, List.cons.injEq, Value.agg.injEq, toArr_inj, Value.int.injEq, Value.bool.injEq, Value.string.injEq, Value.slice.injEq, Value.pointer.injEq, Option.some.injEq, Addr.mk.injEq, lst_inj, true_and, and_true] at e
  obtain ⟨rfl, rfl⟩ := e
  exact h
def W43 : Trans := fun args H Bd K => ∃ (vn ps : Value), args = [vn, ps] ∧ Yld (cellsAt H 1 ps) fun cs => callW V43 [vn, .agg cs.toArray] H Bd K
@[go_sem ↓] theorem W43_eq (vn ps : Value) (H : AH) (Bd : Nat) (K : Value → AH → Nat → Prop) : W43 [vn, ps] H Bd K = (Yld (cellsAt H 1 ps) fun cs => callW V43 (idS [vn, .agg cs.toArray]) H Bd K) := by
  refine propext ⟨fun h => ?_, fun h => ⟨_, _, rfl, h⟩⟩
  obtain ⟨vn', ps', e, h⟩ := h
  simp only [List.cons.injEq, and_true] at e
  obtain ⟨rfl, rfl⟩ := e
  exact h
theorem W43_ok : OK 43 W43 := by
  rintro args H Bd K ⟨vn, ps, rfl, cs, es, h⟩
  obtain ⟨n, s, e, hpre, hK⟩ := h
  simp only [List.cons.injEq, and_true] at e
  obtain ⟨rfl, Es⟩ := e
  obtain rfl := agg_inj Es
  refine fn_pure pok ((Env.base _).add 44 _ W44_ok) [] _ hK Tryd.func43 rfl (rs := [.tmp 3]) rfl Tryd.ntmps43 (by simp) Tryd.call43 (by kernel_rfl) (fun ha hb => .bool _) (fun hb ha => ?_)
  have Ps := cellsAt_out es (NB.vpok (ha ps (by simp)))
  simp only [enc_GSignature] at Ps
  simp (maxSteps := 2000000) (disch := first | assumption | (refine asm_intro ?_; assumption) | exact Nat.le_add_right _ _ | exact Nat.le_refl _ | omega | (simp (disch := first | exact Nat.le_add_right _ _ | omega) only [Le_upd hb, Le_rfl, free_T hb, free_upd]; done) | fail) only [go_sem, push_cast, and_pos, Le_updF, Le_upd hb, free_T hb, Ps.nil, Ps.fldL (m := 1) rfl, Ps.ldL (m := 1) rfl, Ps.ld0L (m := 1) rfl, Ps.cellsL (m := 1) rfl, Ps.cellsOL (m := 1) rfl, hpre]

def V42_43 : Trans := fun args H Bd K => ∃ (xs : List Int) (s : GSignature), args = [lst (xs), .agg (enc (s)).toArray] ∧ ((sm xs ∧ ∀ n ∈ xs, sm s ∧ R64 n) ∧ K (.bool (xs.any (fun n : Int => !isNode s n))) H Bd)
@[go_sem ↓] theorem V42_43_eq (xs : List Int) (s_symbols : List GSymbol) (H : AH) (Bd : Nat) (K : Value → AH → Nat → Prop) : V42_43 [lst (xs), .agg #[lst (s_symbols)]] H Bd K = ((sm xs ∧ ∀ n ∈ xs, sm (GSignature.mk s_symbols) ∧ R64 n) ∧ K (.bool (xs.any (fun n : Int => !isNode (GSignature.mk s_symbols) n))) H Bd) := by
  refine propext ⟨fun h => ?_, fun h => ⟨_, _, rfl, h⟩⟩
  obtain ⟨xs', s', e, h⟩ := h
  skip
  obtain ⟨ssymbols'⟩ := s'
  simp only [enc_GSignature, enc_int, enc_str, enc_list, enc_bool, enc_byte, List.cons.injEq, Value.agg.injEq, toArr_inj, Value.int.injEq, Value.bool.injEq, Value.string.injEq, Value.slice.injEq, Value.pointer.injEq, Option.some.injEq, Addr.mk.injEq, lst_inj, true_and, and_true] at e
  obtain ⟨rfl, rfl⟩ := e
  exact h
def W42_43 : Trans := fun args H Bd K => ∃ (vxs ps : Value), args = [vxs, .func (.func 43) #[] #[ps]] ∧ Yld (cellsAt H 1 ps) fun cs => callW V42_43 [vxs, .agg cs.toArray] H Bd K
@[go_sem ↓] theorem W42_43_eq (vxs ps : Value) (H : AH) (Bd : Nat) (K : Value → AH → Nat → Prop) : W42_43 [vxs, .func (.func 43) #[] #[ps]] H Bd K = (Yld (cellsAt H 1 ps) fun cs => callW V42_43 (idS [vxs, .agg cs.toArray]) H Bd K) := by
  refine propext ⟨fun h => ?_, fun h => ⟨_, _, rfl, h⟩⟩
  obtain ⟨vxs', ps', e, h⟩ := h
  simp only [List.cons.injEq, Value.func.injEq, toArr_inj, List.cons.injEq, and_true, true_and] at e
  obtain ⟨rfl, rfl⟩ := e
  exact h
theorem W42_43_ok : OK 42 W42_43 := by
  rintro args H Bd K ⟨vxs, ps, rfl, cs, es, h⟩
  obtain ⟨xs, s, e, hpre, hK⟩ := h
  simp only [List.cons.injEq, and_true] at e
  obtain ⟨rfl, Es⟩ := e
  obtain rfl := agg_inj Es
  refine G42 43 #[ps] (fun n : Int => !isNode s n) xs H Bd K hpre.1 (fun x hx B hB K' hk => ?_) hK
  exact W43_ok _ _ _ _ ⟨_, _, rfl, _, es, x, s, rfl, hpre.2 x hx, hk⟩

def W59 : Trans := fun args H Bd K => ∃ (s : GSignature) (n : Int), args = [.agg (enc (s)).toArray, .int .i64 (n)] ∧ ((sm s ∧ sigF s = 0 ∧ n < s.symbols.length) ∧ K (.int .i64 ((arN s n : Int))) H Bd)
@[go_sem ↓] theorem W59_eq (s_symbols : List GSymbol) (n : Int) (H : AH) (Bd : Nat) (K : Value → AH → Nat → Prop) : W59 [.agg #[lst (s_symbols)], .int .i64 (n)] H Bd K = ((sm (GSignature.mk s_symbols) ∧ sigF (GSignature.mk s_symbols) = 0 ∧ n < (GSignature.mk s_symbols).symbols.length) ∧ K (.int .i64 ((arN (GSignature.mk s_symbols) n : Int))) H Bd) := by
  refine propext ⟨fun h => ?_, fun h => ⟨_, _, rfl, h⟩⟩
  obtain ⟨s', n', e, h⟩ := h
  obtain ⟨ssymbols'⟩ := s'
  skip
  simp only [enc_GSignature, List.cons.injEq, Value.agg.injEq, toArr_inj, Value.int.injEq, Value.bool.injEq, Value.string.injEq, Value.slice.injEq, Value.pointer.injEq, Option.some.injEq, Addr.mk.injEq, lst_inj, true_and, and_true] at e
  obtain ⟨rfl, rfl⟩ := e
  exact h
theorem W59_ok : OK 59 W59 := by
  rintro args H Bd K ⟨s, n, rfl, hpre, hK⟩
  refine fn_pure pok (Env.base _) [] _ hK Tryd.func59 rfl (rs := [.tmp 4]) rfl Tryd.ntmps59 (by simp) Tryd.call59 (by kernel_rfl) (fun ha hb => .int _ _) (fun hb ha => ?_)
  obtain ⟨h1, h2, h3⟩ := hpre
  have hss : sm s := h1
  simp only [sm_GSignature] at h1
  have hlen := sm_len h1
  have hs := sig_ok h2
  by_cases hn : n < 0
  · have e := arN_neg (s := s) hn
    simp (maxSteps := 2000000) (disch := first | assumption | (refine asm_intro ?_; assumption) | exact Nat.le_add_right _ _ | exact Nat.le_refl _ | omega | (simp (disch := first | exact Nat.le_add_right _ _ | omega) only [Le_upd hb, Le_rfl, free_T hb, free_upd]; done) | fail) only [go_sem, push_cast, and_pos, Le_updF, Le_upd hb, free_T hb, hn, e]
  · have e4 : n.toNat < s.symbols.length := by omega
    have e2 : s.symbols[n.toNat]? = some s.symbols[n.toNat] := List.getElem?_eq_getElem e4
    have e := arN_sym (s := s) (by omega) e2
    have ha := hs.nm _ (List.getElem_mem e4)
    simp (maxSteps := 2000000) (disch := first | assumption | (refine asm_intro ?_; assumption) | exact Nat.le_add_right _ _ | exact Nat.le_refl _ | omega | (simp (disch := first | exact Nat.le_add_right _ _ | omega) only [Le_upd hb, Le_rfl, free_T hb, free_upd]; done) | fail) only [go_sem, push_cast, and_pos, Le_updF, Le_upd hb, free_T hb, hn, e, e2]
    omega

def W45 : Trans := fun args H Bd K => ∃ (s : GSignature) (t : List Int) (a : Int), args = [.agg (enc (s)).toArray, lst (t), .int .i64 (a)] ∧ ((sm s ∧ sm t ∧ sigF s = 0 ∧ nodes s t ∧ 0 ≤ a ∧ a ≤ t.length) ∧ K (.int .i64 (if ep s t 1 a.toNat < 0 then (t.length : Int) + 1 else ep s t 1 a.toNat)) H Bd)
@[go_sem ↓] theorem W45_eq (s_symbols : List GSymbol) (t : List Int) (a : Int) (H : AH) (Bd : Nat) (K : Value → AH → Nat → Prop) : W45 [.agg #[lst (s_symbols)], lst (t), .int .i64 (a)] H Bd K = ((sm (GSignature.mk s_symbols) ∧ sm t ∧ sigF (GSignature.mk s_symbols) = 0 ∧ nodes (GSignature.mk s_symbols) t ∧ 0 ≤ a ∧ a ≤ t.length) ∧ K (.int .i64 (if ep (GSignature.mk s_symbols) t 1 a.toNat < 0 then (t.length : Int) + 1 else ep (GSignature.mk s_symbols) t 1 a.toNat)) H Bd) := by
  refine propext ⟨fun h => ?_, fun h => ⟨_, _, _, rfl, h⟩⟩
  obtain ⟨s', t', a', e, h⟩ := h
  obtain ⟨ssymbols'⟩ := s'
  skip
  skip
  simp only [enc_GSignature, List.cons.injEq, Value.agg.injEq, toArr_inj, Value.int.injEq, Value.bool.injEq, Value.string.injEq, Value.slice.injEq, Value.pointer.injEq, Option.some.injEq, Addr.mk.injEq, lst_inj, true_and, and_true] at e
  obtain ⟨rfl, rfl, rfl⟩ := e
  exact h
set_option maxHeartbeats 2000000 in
theorem W45_ok : OK 45 W45 := by
  rintro args H Bd K ⟨s, t, a, rfl, hpre, hK⟩
  refine fn_pure pok ((Env.base _).add 59 _ W59_ok) [(6, [0,1,2,3,4,5,6,7,8,9], [⟨0, [], []⟩, ⟨1, [], []⟩, ⟨2, [], []⟩, ⟨3, [], []⟩, ⟨4, [], []⟩, ⟨5, [], []⟩, ⟨6, [], []⟩, ⟨7, [], []⟩, ⟨8, [], []⟩, ⟨9, [], []⟩], .nil)] _ hK Tryd.func45 rfl (rs := [.tmp 6]) rfl Tryd.ntmps45 (by simp) Tryd.call45 (by kernel_rfl) (fun ha hb => .int _ _) (fun hb ha => ?_)
  obtain ⟨h1, h2, h3, h4, h5, h6⟩ := hpre
  have hss : sm s := h1
  have hlt2 := sm_len h2
  have hs := sig_ok h3
  obtain ⟨a, rfl⟩ := Int.eq_ofNat_of_zero_le h5
  have hout : ∀ (i : Nat), ep s t 1 a = ep s t (opn s t a i) (a + i) → a + i ≤ t.length → (opn s t a i = 0 → ep s t 1 a = a + i) := fun i h1 h2 h3 => by rw [h1, h3, ep_zero h2]; omega
  rcases ep_cases (s := s) (t := t) 1 (show a ≤ t.length by omega) with ⟨q1, _⟩ | ⟨m, q1, q2, q3, _⟩
  · have hv : (if ep s t 1 a < 0 then (t.length : Int) + 1 else ep s t 1 a) = t.length + 1 := if_pos (by omega)
    simp (maxSteps := 2000000) (disch := first | assumption | (refine asm_intro ?_; assumption) | exact Nat.le_add_right _ _ | exact Nat.le_refl _ | omega | (simp (disch := first | exact Nat.le_add_right _ _ | omega) only [Le_upd hb, Le_rfl, free_T hb, free_upd]; done) | fail) only [go_sem, push_cast, and_pos, Le_updF, Le_upd hb, free_T hb, hv]
    refine tr_for (fun i => ep s t 1 a = ep s t (opn s t a i) (a + i) ∧ opn s t a i ≤ i + 1) (t.length - a) (fun i => [(1, lst t), (2, .int .i64 ((a : Int) + i)), (3, .pointer (some ⟨Bd, 0, none⟩)), (7, .int .i64 (opn s t a i))]) (⟨rfl, Nat.le_refl _⟩) (by simp only [go_sem, push_cast, and_pos, Le_updF, opn_zero, Int.add_zero]) ?_
    intro i Bi hIi hii hBi
    refine vq_conv pok (E := ((Env.base _).add 59 _ W59_ok)) (PL := [(6, [0,1,2,3,4,5,6,7,8,9], [⟨0, [], []⟩, ⟨1, [], []⟩, ⟨2, [], []⟩, ⟨3, [], []⟩, ⟨4, [], []⟩, ⟨5, [], []⟩, ⟨6, [], []⟩, ⟨7, [], []⟩, ⟨8, [], []⟩, ⟨9, [], []⟩], .nil)]) (by kernel_rfl) ?_
    rcases Nat.lt_or_ge i (t.length - a) with hlti | hgei
    · have hpos : 1 ≤ opn s t a i := by
        rcases Nat.eq_zero_or_pos (opn s t a i) with h | h
        · have := hout i hIi.1 (by omega) h; omega
        · exact h
      have e1 : t[a + i]? = some t[a + i] := List.getElem?_eq_getElem (by omega)
      have hn := h4 _ (List.getElem_mem (show a + i < t.length by omega))
      have hop := opn_succ (s := s) e1
      have hnx := opn_ep (s := s) e1 hpos
      have har := arN_le hs t[a + i]
      have hlt3 : (a : Int) + i < t.length := by omega
      have hcv : ((a : Int) + i).toNat = a + i := by omega
      have hi2 := hIi.2
      rw [hnx] at hIi
      have hi3 := hIi.1
      have hcc : (opn s t a i : Int) + (arN s t[a + i] - 1) = opn s t a (i + 1) := by omega
      have hcd : opn s t a (i + 1) ≤ i + 1 + 1 := by omega
      have hce : (a : Int) + i + 1 = a + (i + 1 : Nat) := by omega
      simp (maxSteps := 2000000) (disch := first | assumption | (refine asm_intro ?_; assumption) | exact Nat.le_add_right _ _ | exact Nat.le_refl _ | omega | (simp (disch := first | exact Nat.le_add_right _ _ | omega) only [Le_upd hb, Le_rfl, free_T hb, free_upd]; done) | fail) only [go_sem, push_cast, and_pos, Le_updF, Le_upd hb, free_T hb, e1, hss, h3, hcv, hcc, hi3, hcd]
    · have hpos : 1 ≤ opn s t a i := by
        rcases Nat.eq_zero_or_pos (opn s t a i) with h | h
        · have := hout i hIi.1 (by omega) h; omega
        · exact h
      have hp2 : (0 : Int) < opn s t a i := by omega
      simp (maxSteps := 2000000) (disch := first | assumption | (refine asm_intro ?_; assumption) | exact Nat.le_add_right _ _ | exact Nat.le_refl _ | omega | (simp (disch := first | exact Nat.le_add_right _ _ | omega) only [Le_upd hb, Le_rfl, free_T hb, free_upd]; done) | fail) only [go_sem, push_cast, and_pos, Le_updF, Le_upd hb, free_T hb, hp2]
  · have hv : (if ep s t 1 a < 0 then (t.length : Int) + 1 else ep s t 1 a) = a + m := by rw [if_neg (by omega), q3]; omega
    simp (maxSteps := 2000000) (disch := first | assumption | (refine asm_intro ?_; assumption) | exact Nat.le_add_right _ _ | exact Nat.le_refl _ | omega | (simp (disch := first | exact Nat.le_add_right _ _ | omega) only [Le_upd hb, Le_rfl, free_T hb, free_upd]; done) | fail) only [go_sem, push_cast, and_pos, Le_updF, Le_upd hb, free_T hb, hv]
    refine tr_for (fun i => ep s t 1 a = ep s t (opn s t a i) (a + i) ∧ opn s t a i ≤ i + 1) (m) (fun i => [(1, lst t), (2, .int .i64 ((a : Int) + i)), (3, .pointer (some ⟨Bd, 0, none⟩)), (7, .int .i64 (opn s t a i))]) (⟨rfl, Nat.le_refl _⟩) (by simp only [go_sem, push_cast, and_pos, Le_updF, opn_zero, Int.add_zero]) ?_
    intro i Bi hIi hii hBi
    refine vq_conv pok (E := ((Env.base _).add 59 _ W59_ok)) (PL := [(6, [0,1,2,3,4,5,6,7,8,9], [⟨0, [], []⟩, ⟨1, [], []⟩, ⟨2, [], []⟩, ⟨3, [], []⟩, ⟨4, [], []⟩, ⟨5, [], []⟩, ⟨6, [], []⟩, ⟨7, [], []⟩, ⟨8, [], []⟩, ⟨9, [], []⟩], .nil)]) (by kernel_rfl) ?_
    rcases Nat.lt_or_ge i (m) with hlti | hgei
    · have hpos : 1 ≤ opn s t a i := by
        rcases Nat.eq_zero_or_pos (opn s t a i) with h | h
        · have := hout i hIi.1 (by omega) h; omega
        · exact h
      have e1 : t[a + i]? = some t[a + i] := List.getElem?_eq_getElem (by omega)
      have hn := h4 _ (List.getElem_mem (show a + i < t.length by omega))
      have hop := opn_succ (s := s) e1
      have hnx := opn_ep (s := s) e1 hpos
      have har := arN_le hs t[a + i]
      have hlt3 : (a : Int) + i < t.length := by omega
      have hcv : ((a : Int) + i).toNat = a + i := by omega
      have hi2 := hIi.2
      rw [hnx] at hIi
      have hi3 := hIi.1
      have hcc : (opn s t a i : Int) + (arN s t[a + i] - 1) = opn s t a (i + 1) := by omega
      have hcd : opn s t a (i + 1) ≤ i + 1 + 1 := by omega
      have hce : (a : Int) + i + 1 = a + (i + 1 : Nat) := by omega
      simp (maxSteps := 2000000) (disch := first | assumption | (refine asm_intro ?_; assumption) | exact Nat.le_add_right _ _ | exact Nat.le_refl _ | omega | (simp (disch := first | exact Nat.le_add_right _ _ | omega) only [Le_upd hb, Le_rfl, free_T hb, free_upd]; done) | fail) only [go_sem, push_cast, and_pos, Le_updF, Le_upd hb, free_T hb, e1, hss, h3, hcv, hcc, hi3, hcd]
    · have hz : opn s t a i = 0 := by
        have h7 := hIi.1
        rcases ep_cases (s := s) (t := t) (opn s t a i) (show a + i ≤ t.length by omega) with ⟨g1, _⟩ | ⟨m', g1, g2, g3, _⟩
        · omega
        · omega
      simp (maxSteps := 2000000) (disch := first | assumption | (refine asm_intro ?_; assumption) | exact Nat.le_add_right _ _ | exact Nat.le_refl _ | omega | (simp (disch := first | exact Nat.le_add_right _ _ | omega) only [Le_upd hb, Le_rfl, free_T hb, free_upd]; done) | fail) only [go_sem, push_cast, and_pos, Le_updF, Le_upd hb, free_T hb, hz]
      refine vq_conv pok (E := ((Env.base _).add 59 _ W59_ok)) (PL := [(6, [0,1,2,3,4,5,6,7,8,9], [⟨0, [], []⟩, ⟨1, [], []⟩, ⟨2, [], []⟩, ⟨3, [], []⟩, ⟨4, [], []⟩, ⟨5, [], []⟩, ⟨6, [], []⟩, ⟨7, [], []⟩, ⟨8, [], []⟩, ⟨9, [], []⟩], .nil)]) (by kernel_rfl) ?_
      simp (maxSteps := 2000000) (disch := first | assumption | (refine asm_intro ?_; assumption) | exact Nat.le_add_right _ _ | exact Nat.le_refl _ | omega | (simp (disch := first | exact Nat.le_add_right _ _ | omega) only [Le_upd hb, Le_rfl, free_T hb, free_upd]; done) | fail) only [go_sem, push_cast, and_pos, Le_updF, Le_upd hb, free_T hb]
      omega

def W22 : Trans := fun args H Bd K => ∃ (s : GSignature) (t : List Int), args = [.agg (enc (s)).toArray, lst (t)] ∧ ((sm s ∧ sm t ∧ rg t) ∧ K (.int .i64 (termF s t)) H Bd)
@[go_sem ↓] theorem W22_eq (s_symbols : List GSymbol) (t : List Int) (H : AH) (Bd : Nat) (K : Value → AH → Nat → Prop) : W22 [.agg #[lst (s_symbols)], lst (t)] H Bd K = ((sm (GSignature.mk s_symbols) ∧ sm t ∧ rg t) ∧ K (.int .i64 (termF (GSignature.mk s_symbols) t)) H Bd) := by
  refine propext ⟨fun h => ?_, fun h => ⟨_, _, rfl, h⟩⟩
  obtain ⟨s', t', e, h⟩ := h
  obtain ⟨ssymbols'⟩ := s'
  skip
  simp only [enc_GSignature, List.cons.injEq, Value.agg.injEq, toArr_inj, Value.int.injEq, Value.bool.injEq, Value.string.injEq, Value.slice.injEq, Value.pointer.injEq, Option.some.injEq, Addr.mk.injEq, lst_inj, true_and, and_true] at e
  obtain ⟨rfl, rfl⟩ := e
  exact h
set_option maxHeartbeats 2000000 in
theorem W22_ok : OK 22 W22 := by
  rintro args H Bd K ⟨s, t, rfl, hpre, hK⟩
  refine fn_pure pok ((((Env.base _).add 21 _ W21_ok).add 42 _ W42_43_ok).add 45 _ W45_ok) [(4, [], [], (.k 4 (.grp false 14 17 3 [15, 16, 17] 18 none (.k 3 .nil) .nil)))] _ hK Tryd.func22 rfl (rs := [.tmp 4]) rfl Tryd.ntmps22 (by simp) Tryd.call22 (by kernel_rfl) (fun ha hb => .int _ _) (fun hb ha => ?_)
  obtain ⟨h1, h2, h3⟩ := hpre
  have hss : sm s := h1
  simp only [sm_GSignature] at h1
  have hlen := sm_len h1
  have hlen2 := sm_len h2
  simp (maxSteps := 2000000) (disch := first | assumption | (refine asm_intro ?_; assumption) | exact Nat.le_add_right _ _ | exact Nat.le_refl _ | omega | (simp (disch := first | exact Nat.le_add_right _ _ | omega) only [Le_upd hb, Le_rfl, free_T hb, free_upd]; done) | fail) only [go_sem, push_cast, and_pos, Le_updF, Le_upd hb, free_T hb, hss, h2]
  refine ⟨fun g1 => ⟨fun g2 => ?_, fun g2 g3 => ⟨h3, fun g4 => ?_, fun g4 => ⟨⟨nodes_any (by simpa using g4), by omega⟩, ?_⟩⟩⟩, fun g1 => ?_⟩
  · unfold termF termG; rw [if_neg (by simp [g1]), if_pos (by omega)]
  · unfold termF termG; rw [if_neg (by simp [g1]), if_neg (by omega), if_pos g4]
  · have e5 : termF s t = if ep s t 1 0 = t.length then 0 else 1 := by unfold termF termG; rw [if_neg (by simp [g1]), if_neg (by omega), if_neg (by simpa using g4)]
    rw [e5]
    rcases ep_cases (s := s) (t := t) 1 (Nat.zero_le _) with ⟨q1, _⟩ | ⟨m, q1, q2, q3, _⟩
    · rw [q1]
      refine ⟨fun h => ?_, fun h => ?_⟩
      · rw [if_pos (by omega)] at h; omega
      · rw [if_neg (by omega)]
    · rw [q3]
      refine ⟨fun h => ?_, fun h => ?_⟩
      · rw [if_neg (by omega)] at h; rw [if_pos h]
      · rw [if_neg (by omega)] at h; rw [if_neg h]
  · unfold termF; rw [if_pos g1]

def W46 : Trans := fun args H Bd K => ∃ (s : GSignature) (t : List Int) (a : Int), args = [.agg (enc (s)).toArray, lst (t), .int .i64 (a)] ∧ ((sm s ∧ sm t ∧ sigF s = 0 ∧ nodes s t ∧ 0 ≤ a ∧ a < t.length ∧ 0 ≤ ep s t 1 a.toNat) ∧ K (lst (argsP s t a.toNat (arN s (t.getD a.toNat 0)))) H Bd)
@[go_sem ↓] theorem W46_eq (s_symbols : List GSymbol) (t : List Int) (a : Int) (H : AH) (Bd : Nat) (K : Value → AH → Nat → Prop) : W46 [.agg #[lst (s_symbols)], lst (t), .int .i64 (a)] H Bd K = ((sm (GSignature.mk s_symbols) ∧ sm t ∧ sigF (GSignature.mk s_symbols) = 0 ∧ nodes (GSignature.mk s_symbols) t ∧ 0 ≤ a ∧ a < t.length ∧ 0 ≤ ep (GSignature.mk s_symbols) t 1 a.toNat) ∧ K (lst (argsP (GSignature.mk s_symbols) t a.toNat (arN (GSignature.mk s_symbols) (t.getD a.toNat 0)))) H Bd) := by
  refine propext ⟨fun h => ?_, fun h => ⟨_, _, _, rfl, h⟩⟩
  obtain ⟨s', t', a', e, h⟩ := h
  obtain ⟨ssymbols'⟩ := s'
  skip
  skip
  simp only [enc_GSignature, List.cons.injEq, Value.agg.injEq, toArr_inj, Value.int.injEq, Value.bool.injEq, Value.string.injEq, Value.slice.injEq, Value.pointer.injEq, Option.some.injEq, Addr.mk.injEq, lst_inj, true_and, and_true] at e
  obtain ⟨rfl, rfl, rfl⟩ := e
  exact h
set_option maxHeartbeats 2000000 in
theorem W46_ok : OK 46 W46 := by
  rintro args H Bd K ⟨s, t, a, rfl, hpre, hK⟩
  refine fn_pure pok (((Env.base _).add 59 _ W59_ok).add 45 _ W45_ok) [(3, [0,1,2,3,4,6,5], [⟨0, [], []⟩, ⟨1, [], []⟩, ⟨2, [], []⟩, ⟨3, [], []⟩, ⟨4, [], []⟩, ⟨6, [], []⟩, ⟨5, [], []⟩], .nil)] _ hK Tryd.func46 rfl (rs := [.tmp 6]) rfl Tryd.ntmps46 (by simp) Tryd.call46 (by kernel_rfl) (fun ha hb => lst_nb _ _) (fun hb ha => ?_)
  obtain ⟨h1, h2, h3, h4, h5, h6, h8⟩ := hpre
  have hss : sm s := h1
  have hlt2 := sm_len h2
  have hs := sig_ok h3
  obtain ⟨a, rfl⟩ := Int.eq_ofNat_of_zero_le h5
  simp only [Int.toNat_natCast] at h8
  have hlt : a < t.length := by omega
  have e1 : t[a]? = some t[a] := List.getElem?_eq_getElem hlt
  have e3 : t.getD a 0 = t[a] := by rw [List.getD_eq_getElem?_getD, e1]; rfl
  have hn := h4 _ (List.getElem_mem hlt)
  have ha2 := arN_le hs t[a]
  rw [ep_node 0 e1, Nat.zero_add] at h8
  have hn2 := hn.2
  simp (maxSteps := 2000000) (disch := first | assumption | (refine asm_intro ?_; assumption) | exact Nat.le_add_right _ _ | exact Nat.le_refl _ | omega | (simp (disch := first | exact Nat.le_add_right _ _ | omega) only [Le_upd hb, Le_rfl, free_T hb, free_upd]; done) | fail) only [go_sem, push_cast, and_pos, Le_updF, Le_upd hb, free_T hb, e1, e3, hss, h3, hn2]
  refine tr_acc (α := Int) (H0 := upd H Bd (some ⟨[lst s.symbols], true⟩)) (B0 := Bd + 1) (n0 := Bd + 1) (arN s t[a]) (fun i => argsP s t a i) (fun i out => [(1, lst t), (3, .pointer (some ⟨Bd, 0, none⟩)), (7, out), (8, .int .i64 (ep s t i (a + 1))), (17, .int .i64 (arN s t[a])), (18, .int .i64 i)]) (Nat.le_refl 1) ⟨by omega, by omega⟩ (by simp only [go_sem, push_cast, and_pos, Le_updF, argsP_zero, ep_zero (show a + 1 ≤ t.length by omega)]) (by simp (disch := first | assumption | omega) only [go_sem, push_cast, and_pos, Le_updF, flat_nil, argsP_zero, ep_zero (show a + 1 ≤ t.length by omega)]) ?_
  intro i ni ci Bi hii hci hni hmi hBi hbi
  refine vq_conv pok (E := (((Env.base _).add 59 _ W59_ok).add 45 _ W45_ok)) (PL := [(3, [0,1,2,3,4,6,5], [⟨0, [], []⟩, ⟨1, [], []⟩, ⟨2, [], []⟩, ⟨3, [], []⟩, ⟨4, [], []⟩, ⟨6, [], []⟩, ⟨5, [], []⟩], .nil)]) (by kernel_rfl) ?_
  have hzi : (ci = 0) = False := eq_false (by omega)
  rcases Nat.lt_or_ge i (arN s t[a]) with hlti | hgei
  · obtain ⟨m, q1, q2, q3, q4, q5⟩ := arg_at hlt h8 hlti
    have hcv : ((a : Int) + 1 + m).toNat = a + 1 + m := by omega
    have hst := argsP_succ s t a i
    rw [q3] at hst
    have hl3 := argsP_len s t a i
    have hif : (if ep s t 1 (a + 1 + m) < 0 then (t.length : Int) + 1 else ep s t 1 (a + 1 + m)) = ep s t 1 (a + 1 + m) := if_neg (by omega)
    simp (maxSteps := 2000000) (disch := first | assumption | (refine asm_intro ?_; assumption) | exact Nat.le_add_right _ _ | exact Nat.le_refl _ | omega | (simp (disch := first | exact Nat.le_add_right _ _ | omega) only [Le_upd hb, Le_rfl, free_T hb, free_upd]; done) | fail) only [go_sem, push_cast, and_pos, Le_updF, Le_upd hb, free_T hb, q3, q4, hcv, hss, h2, h3, h4, hzi, hst, hif, flat_append, flat_one]
    exact acc_end (by omega) (by omega) (by simp) rfl (by simp (disch := first | assumption | omega | (simp (disch := omega) only [free_upd, free_T hb]; done)) only [Le_upd2, Le_updF, Le_rfl, free_upd, free_T hb])
  · simp (maxSteps := 2000000) (disch := first | assumption | (refine asm_intro ?_; assumption) | exact Nat.le_add_right _ _ | exact Nat.le_refl _ | omega | (simp (disch := first | exact Nat.le_add_right _ _ | omega) only [Le_upd hb, Le_rfl, free_T hb, free_upd]; done) | fail) only [go_sem, push_cast, and_pos, Le_updF, Le_upd hb, free_T hb]
    refine Tr.fin2 7 (by simp (disch := first | assumption | omega) only [free_upd, free_T hb]) (by simp only [go_sem, push_cast, and_pos, Le_updF]; rfl) rfl ?_
    refine vq_conv pok (E := (((Env.base _).add 59 _ W59_ok).add 45 _ W45_ok)) (PL := [(3, [0,1,2,3,4,6,5], [⟨0, [], []⟩, ⟨1, [], []⟩, ⟨2, [], []⟩, ⟨3, [], []⟩, ⟨4, [], []⟩, ⟨6, [], []⟩, ⟨5, [], []⟩], .nil)]) (by kernel_rfl) ?_
    rw [← show i = arN s t[a] by omega]
    simp (maxSteps := 2000000) (disch := first | assumption | (refine asm_intro ?_; assumption) | exact Nat.le_add_right _ _ | exact Nat.le_refl _ | omega | (simp (disch := first | exact Nat.le_add_right _ _ | omega) only [Le_upd hb, Le_rfl, free_T hb, free_upd]; done) | fail) only [go_sem, push_cast, and_pos, Le_updF, Le_upd hb, free_T hb]

def W24 : Trans := fun args H Bd K => ∃ (s : GSignature) (t : List Int) (a : Int), args = [.agg (enc (s)).toArray, lst (t), .int .i64 (a)] ∧ ((sm s ∧ sm t ∧ sigF s = 0 ∧ nodes s t ∧ 0 ≤ a ∧ a < t.length ∧ t.length ≤ 24 ∧ 0 ≤ ep s t 1 a.toNat) ∧ K (.string (tx s t a.toNat)) H Bd)
@[go_sem ↓] theorem W24_eq (s_symbols : List GSymbol) (t : List Int) (a : Int) (H : AH) (Bd : Nat) (K : Value → AH → Nat → Prop) : W24 [.agg #[lst (s_symbols)], lst (t), .int .i64 (a)] H Bd K = ((sm (GSignature.mk s_symbols) ∧ sm t ∧ sigF (GSignature.mk s_symbols) = 0 ∧ nodes (GSignature.mk s_symbols) t ∧ 0 ≤ a ∧ a < t.length ∧ t.length ≤ 24 ∧ 0 ≤ ep (GSignature.mk s_symbols) t 1 a.toNat) ∧ K (.string (tx (GSignature.mk s_symbols) t a.toNat)) H Bd) := by
  refine propext ⟨fun h => ?_, fun h => ⟨_, _, _, rfl, h⟩⟩
  obtain ⟨s', t', a', e, h⟩ := h
  obtain ⟨ssymbols'⟩ := s'
  skip
  skip
  simp only [enc_GSignature, List.cons.injEq, Value.agg.injEq, toArr_inj, Value.int.injEq, Value.bool.injEq, Value.string.injEq, Value.slice.injEq, Value.pointer.injEq, Option.some.injEq, Addr.mk.injEq, lst_inj, true_and, and_true] at e
  obtain ⟨rfl, rfl, rfl⟩ := e
  exact h
def R24 (N : Nat) : Trans := fun args H Bd K => ∃ (s : GSignature) (t : List Int) (a : Int), args = [.agg (enc (s)).toArray, lst (t), .int .i64 (a)] ∧ (((sm s ∧ sm t ∧ sigF s = 0 ∧ nodes s t ∧ 0 ≤ a ∧ a < t.length ∧ t.length ≤ 24 ∧ 0 ≤ ep s t 1 a.toNat) ∧ (t.length - a.toNat) < N) ∧ K (.string (tx s t a.toNat)) H Bd)
@[go_sem ↓] theorem R24_eq (N : Nat) (s_symbols : List GSymbol) (t : List Int) (a : Int) (H : AH) (Bd : Nat) (K : Value → AH → Nat → Prop) : R24 N [.agg #[lst (s_symbols)], lst (t), .int .i64 (a)] H Bd K = (((sm (GSignature.mk s_symbols) ∧ sm t ∧ sigF (GSignature.mk s_symbols) = 0 ∧ nodes (GSignature.mk s_symbols) t ∧ 0 ≤ a ∧ a < t.length ∧ t.length ≤ 24 ∧ 0 ≤ ep (GSignature.mk s_symbols) t 1 a.toNat) ∧ (t.length - a.toNat) < N) ∧ K (.string (tx (GSignature.mk s_symbols) t a.toNat)) H Bd) := by
  refine propext ⟨fun h => ?_, fun h => ⟨_, _, _, rfl, h⟩⟩
  obtain ⟨s', t', a', e, h⟩ := h
  obtain ⟨ssymbols'⟩ := s'
  skip
  skip
  simp only [enc_GSignature, List.cons.injEq, Value.agg.injEq, toArr_inj, Value.int.injEq, Value.bool.injEq, Value.string.injEq, Value.slice.injEq, Value.pointer.injEq, Option.some.injEq, Addr.mk.injEq, lst_inj, true_and, and_true] at e
  obtain ⟨rfl, rfl, rfl⟩ := e
  exact h
set_option maxHeartbeats 2000000 in
theorem R24_step (N : Nat) (ih : OK 24 (R24 N)) : OK 24 (R24 (N + 1)) := by
  rintro args H Bd K ⟨s, t, a, rfl, hpre, hK⟩
  refine fn_pure pok ((((Env.base _).add 46 _ W46_ok).add 26 _ W26_ok).add 24 _ ih) [(4, [0,1,2,3,4,5,6,7,8,9], [⟨0, [], []⟩, ⟨1, [], []⟩, ⟨2, [], []⟩, ⟨3, [], []⟩, ⟨4, [], []⟩, ⟨5, [], []⟩, ⟨6, [], []⟩, ⟨7, [], []⟩, ⟨8, [], []⟩, ⟨9, [], []⟩], .nil)] _ hK Tryd.func24 rfl (rs := [.tmp 6]) rfl Tryd.ntmps24 (by simp) Tryd.call24 (by kernel_rfl) (fun ha hb => .string _) (fun hb ha => ?_)
  obtain ⟨⟨h1, h2, h3, h4, h5, h6, h7, h8⟩, hrec⟩ := hpre
  have hss : sm s := h1
  simp only [sm_GSignature] at h1
  have hlen := sm_len h1
  have hs := sig_ok h3
  obtain ⟨a, rfl⟩ := Int.eq_ofNat_of_zero_le h5
  simp only [Int.toNat_natCast] at hrec h8
  have hlt : a < t.length := by omega
  have e1 : t[a]? = some t[a] := List.getElem?_eq_getElem hlt
  have hn := h4 _ (List.getElem_mem hlt)
  have htx := tx_node (s := s) e1 h8
  by_cases hx : t[a] < 0
  · rw [if_pos hx] at htx
    simp (maxSteps := 2000000) (disch := first | assumption | (refine asm_intro ?_; assumption) | exact Nat.le_add_right _ _ | exact Nat.le_refl _ | omega | (simp (disch := first | exact Nat.le_add_right _ _ | omega) only [Le_upd hb, Le_rfl, free_T hb, free_upd]; done) | fail) only [go_sem, push_cast, and_pos, Le_updF, Le_upd hb, free_T hb, e1, hx, htx]
    try trivial
  · rw [if_neg hx] at htx
    have e4 : t[a].toNat < s.symbols.length := by omega
    have e2 : s.symbols[t[a].toNat]? = some s.symbols[t[a].toNat] := List.getElem?_eq_getElem e4
    have ha := hs.nm _ (List.getElem_mem e4)
    have har := arN_sym (s := s) (by omega) e2
    have hnm : nameAt s t[a] = s.symbols[t[a].toNat].name := by unfold nameAt; rw [e2]
    have hns := isNm_size ha.1
    rw [ep_node 0 e1, Nat.zero_add, har] at h8
    rw [har, hnm] at htx
    have e3 : t.getD a 0 = t[a] := by rw [List.getD_eq_getElem?_getD, e1]; rfl
    have h8' : 0 ≤ ep s t 1 a := by rw [ep_node 0 e1, Nat.zero_add, har]; exact h8
    simp (maxSteps := 2000000) (disch := first | assumption | (refine asm_intro ?_; assumption) | exact Nat.le_add_right _ _ | exact Nat.le_refl _ | omega | (simp (disch := first | exact Nat.le_add_right _ _ | omega) only [Le_upd hb, Le_rfl, free_T hb, free_upd]; done) | fail) only [go_sem, push_cast, and_pos, Le_updF, Le_upd hb, free_T hb, e1, e2, hx, e3, har, hss, h2, h3, h4, h8']
    refine tr_acc (α := ByteArray) (H0 := upd H Bd (some ⟨[lst s.symbols], true⟩)) (B0 := Bd + 1) (n0 := Bd + 1 + 10) (s.symbols[t[a].toNat].arity.toNat) (fun i => txs s t a i) (fun i out => [(1, lst t), (3, .pointer (some ⟨Bd, 0, none⟩)), (8, .string s.symbols[t[a].toNat].name), (9, out), (36, lst (argsP s t a s.symbols[t[a].toNat].arity.toNat)), (37, .int .i64 s.symbols[t[a].toNat].arity.toNat), (38, .int .i64 i)]) (Nat.le_refl 1) ⟨by omega, by omega⟩ (by simp only [go_sem, push_cast, and_pos, Le_updF, txs_zero, argsP_len]) (by simp (disch := first | assumption | omega) only [go_sem, push_cast, and_pos, Le_updF, flat_nil, txs_zero, argsP_len]) ?_
    intro i ni ci Bi hii hci hni hmi hBi hbi
    refine vq_conv pok (E := ((((Env.base _).add 46 _ W46_ok).add 26 _ W26_ok).add 24 _ ih)) (PL := [(4, [0,1,2,3,4,5,6,7,8,9], [⟨0, [], []⟩, ⟨1, [], []⟩, ⟨2, [], []⟩, ⟨3, [], []⟩, ⟨4, [], []⟩, ⟨5, [], []⟩, ⟨6, [], []⟩, ⟨7, [], []⟩, ⟨8, [], []⟩, ⟨9, [], []⟩], .nil)]) (by kernel_rfl) ?_
    have hzi : (ci = 0) = False := eq_false (by omega)
    rcases Nat.lt_or_ge i (s.symbols[t[a].toNat].arity.toNat) with hlti | hgei
    · obtain ⟨m, q1, q2, q3, q4, q5⟩ := arg_at hlt h8 hlti
      have hcv : ((a : Int) + 1 + m).toNat = a + 1 + m := by omega
      have hst := txs_succ s t a i
      have e6 : (argsP s t a s.symbols[t[a].toNat].arity.toNat)[i]? = some (ep s t i (a + 1)) := argsP_get hlti
      rw [q3] at hst e6
      rw [Int.toNat_natCast] at hst
      have hl3 := txs_len s t a i
      simp (maxSteps := 2000000) (disch := first | assumption | (refine asm_intro ?_; assumption) | exact Nat.le_add_right _ _ | exact Nat.le_refl _ | omega | (simp (disch := first | exact Nat.le_add_right _ _ | omega) only [Le_upd hb, Le_rfl, free_T hb, free_upd]; done) | fail) only [go_sem, push_cast, and_pos, Le_updF, Le_upd hb, free_T hb, e6, hcv, hss, h2, h3, h4, q5, hzi, hst, flat_append, flat_one]
      exact acc_end (by omega) (by omega) (by simp) rfl (by simp (disch := first | assumption | omega | (simp (disch := omega) only [free_upd, free_T hb]; done)) only [Le_upd2, Le_updF, Le_rfl, free_upd, free_T hb])
    · have hz3 := txs_len s t a i
      simp (maxSteps := 2000000) (disch := first | assumption | (refine asm_intro ?_; assumption) | exact Nat.le_add_right _ _ | exact Nat.le_refl _ | omega | (simp (disch := first | exact Nat.le_add_right _ _ | omega) only [Le_upd hb, Le_rfl, free_T hb, free_upd]; done) | fail) only [go_sem, push_cast, and_pos, Le_updF, Le_upd hb, free_T hb]
      refine Tr.fin2 9 (by simp (disch := first | assumption | omega) only [free_upd, free_T hb]) (by simp only [go_sem, push_cast, and_pos, Le_updF]; rfl) rfl ?_
      refine vq_conv pok (E := ((((Env.base _).add 46 _ W46_ok).add 26 _ W26_ok).add 24 _ ih)) (PL := [(4, [0,1,2,3,4,5,6,7,8,9], [⟨0, [], []⟩, ⟨1, [], []⟩, ⟨2, [], []⟩, ⟨3, [], []⟩, ⟨4, [], []⟩, ⟨5, [], []⟩, ⟨6, [], []⟩, ⟨7, [], []⟩, ⟨8, [], []⟩, ⟨9, [], []⟩], .nil)]) (by kernel_rfl) ?_
      have hie : s.symbols[t[a].toNat].arity.toNat = i := by omega
      rw [hie] at htx
      have hsz := txs_size hs h7 a i
      simp (maxSteps := 2000000) (disch := first | assumption | (refine asm_intro ?_; assumption) | exact Nat.le_add_right _ _ | exact Nat.le_refl _ | omega | (simp (disch := first | exact Nat.le_add_right _ _ | omega) only [Le_upd hb, Le_rfl, free_T hb, free_upd]; done) | fail) only [go_sem, push_cast, and_pos, Le_updF, Le_upd hb, free_T hb, hz3, htx]
      have hc1 : (#[40] : Array UInt8).size = 1 := rfl
      have hc3 : (#[41] : Array UInt8).size = 1 := rfl
      refine ⟨fun h => ?_, fun h => ?_⟩
      · rw [if_pos (by omega)]
      · rw [if_neg (by omega)]; exact ⟨by omega, by omega, by omega, rfl⟩

theorem R24_zero : OK 24 (R24 0) := by
  rintro args H Bd K ⟨s, t, a, rfl, hpre, hK⟩
  exact absurd hpre.2 (Nat.not_lt_zero _)
theorem R24_ok : ∀ N, OK 24 (R24 N)
  | 0 => R24_zero
  | N + 1 => R24_step N (R24_ok N)
theorem W24_ok : OK 24 W24 := by
  rintro args H Bd K ⟨s, t, a, rfl, hpre, hK⟩
  exact R24_ok ((t.length - a.toNat) + 1) _ _ _ _ ⟨s, t, a, rfl, ⟨hpre, Nat.lt_succ_self _⟩, hK⟩

def W25 : Trans := fun args H Bd K => ∃ (n : Int), args = [.int .i64 (n)] ∧ ((R64 n ∧ PT H) ∧ K (.string (itoaB n)) H Bd)
@[go_sem ↓] theorem W25_eq (n : Int) (H : AH) (Bd : Nat) (K : Value → AH → Nat → Prop) : W25 [.int .i64 (n)] H Bd K = ((R64 n ∧ PT H) ∧ K (.string (itoaB n)) H Bd) := by
  refine propext ⟨fun h => ?_, fun h => ⟨_, rfl, h⟩⟩
  obtain ⟨n', e, h⟩ := h
  skip
  simp only [List.cons.injEq, Value.agg.injEq, toArr_inj, Value.int.injEq, Value.bool.injEq, Value.string.injEq, Value.slice.injEq, Value.pointer.injEq, Option.some.injEq, Addr.mk.injEq, lst_inj, true_and, and_true] at e
  obtain rfl := e
  exact h
theorem W25_ok : OK 25 W25 := by
  rintro args H Bd K ⟨n, rfl, hpre, hK⟩
  refine fn_pure pok ((Env.base _).add 47 _ W47_ok) [] _ hK Tryd.func25 rfl (rs := [.tmp 2]) rfl Tryd.ntmps25 (by simp) Tryd.call25 (by kernel_rfl) (fun ha hb => .string _) (fun hb ha => ?_)
  obtain ⟨h1, h2⟩ := hpre
  have h3 := h1.1
  have h4 := h1.2
  simp (maxSteps := 2000000) (disch := first | assumption | (refine asm_intro ?_; assumption) | exact Nat.le_add_right _ _ | exact Nat.le_refl _ | omega | (simp (disch := first | exact Nat.le_add_right _ _ | omega) only [Le_upd hb, Le_rfl, free_T hb, free_upd]; done) | fail) only [go_sem, push_cast, and_pos, Le_updF, Le_upd hb, free_T hb, h2, h3, h4]

def W9 : Trans := fun args H Bd K => ∃ (s : GSignature) (l : List GRecord), args = [.agg (enc (s)).toArray, lst (l)] ∧ ((sm s ∧ sm l ∧ rg l ∧ PT H ∧ GP < Bd) ∧ K (.agg (enc (recsR s l)).toArray) H Bd)
@[go_sem ↓] theorem W9_eq (s_symbols : List GSymbol) (l : List GRecord) (H : AH) (Bd : Nat) (K : Value → AH → Nat → Prop) : W9 [.agg #[lst (s_symbols)], lst (l)] H Bd K = ((sm (GSignature.mk s_symbols) ∧ sm l ∧ rg l ∧ PT H ∧ GP < Bd) ∧ K (.agg (enc (recsR (GSignature.mk s_symbols) l)).toArray) H Bd) := by
  refine propext ⟨fun h => ?_, fun h => ⟨_, _, rfl, h⟩⟩
  obtain ⟨s', l', e, h⟩ := h
  obtain ⟨ssymbols'⟩ := s'
  skip
  simp only [enc_GSignature, List.cons.injEq, Value.agg.injEq, toArr_inj, Value.int.injEq, Value.bool.injEq, Value.string.injEq, Value.slice.injEq, Value.pointer.injEq, Option.some.injEq, Addr.mk.injEq, lst_inj, true_and, and_true] at e
  obtain ⟨rfl, rfl⟩ := e
  exact h
set_option maxHeartbeats 2000000 in
theorem W9_ok : OK 9 W9 := by
  rintro args H Bd K ⟨s, l, rfl, hpre, hK⟩
  refine fn_pure pok (((((((Env.base _).add 21 _ W21_ok).add 22 _ W22_ok).add 23 _ W23_ok).add 24 _ W24_ok).add 25 _ W25_ok).add 26 _ W26_ok) [(15, [0,1,2,3,6,7,4,5,8,9,10,11,12], [⟨0, [], []⟩, ⟨1, [], []⟩, ⟨2, [], []⟩, ⟨3, [], []⟩, ⟨6, [], []⟩, ⟨7, [], []⟩, ⟨4, [], [7]⟩, ⟨5, [], []⟩, ⟨8, [], []⟩, ⟨9, [], []⟩, ⟨10, [], []⟩, ⟨11, [10], []⟩, ⟨12, [], []⟩], .nil)] _ hK Tryd.func9 rfl (rs := [.cell 4 29]) rfl Tryd.ntmps9 (by simp) Tryd.call9 (by kernel_rfl) (fun ha hb => agg_nb _ _) (fun hb ha => ?_)
  obtain ⟨h1, h2, h3, h4, h5⟩ := hpre
  have hss := h1
  simp only [sm_GSignature] at h1
  have hlen := sm_len h1
  have hlen2 := sm_len h2
  simp (maxSteps := 2000000) (disch := first | assumption | (refine asm_intro ?_; assumption) | exact Nat.le_add_right _ _ | exact Nat.le_refl _ | omega | (simp (disch := first | exact Nat.le_add_right _ _ | omega) only [Le_upd hb, Le_rfl, free_T hb, free_upd]; done) | fail) only [go_sem, push_cast, and_pos, Le_updF, Le_upd hb, free_T hb, hss]
  refine ⟨fun g1 => ⟨fun g2 => ?_, fun g2 => ?_⟩, fun g1 => ?_⟩
  · unfold recsR; rw [if_neg (by simp [g1]), if_pos (by omega)]; exact ⟨rfl, rfl⟩
  · have hR : recsR s l = if recG s l ≠ 0 then ⟨recG s l, ⟨#[]⟩⟩ else ⟨0, joinB (l.map (recT s)) ⟨#[59, 32]⟩⟩ := by unfold recsR; rw [if_neg (by simp [g1]), if_neg (by omega)]
    rw [hR]
    have hs := sig_ok g1
    refine tr_accI (α := ByteArray) (H0 := upd (upd H Bd (some ⟨[lst s.symbols], true⟩)) (Bd + 1) (some ⟨[.int .i64 0, .string ⟨#[]⟩], true⟩)) (B0 := Bd + 2) (n0 := Bd + 2) (l.length) (fun i => ∀ j, j < i → ∀ x, l[j]? = some x → okR s x) (fun j hj => absurd hj (Nat.not_lt_zero _)) (fun i => (l.take i).map (recT s)) (fun i out => [(1, lst l), (2, .pointer (some ⟨Bd, 0, none⟩)), (4, .pointer (some ⟨Bd + 1, 0, none⟩)), (6, out), (21, lst l), (22, .int .i64 l.length), (23, .int .i64 i)]) (Nat.le_refl 1) ⟨by omega, by omega⟩ (by simp only [go_sem, push_cast, and_pos, Le_updF, List.take_zero, List.map_nil]) (by simp (disch := first | assumption | omega) only [go_sem, push_cast, and_pos, Le_updF, flat_nil, List.take_zero, List.map_nil]) ?_
    intro i ni ci Bi hIi hii hci hni hmi hBi hbi
    refine vq_conv pok (E := (((((((Env.base _).add 21 _ W21_ok).add 22 _ W22_ok).add 23 _ W23_ok).add 24 _ W24_ok).add 25 _ W25_ok).add 26 _ W26_ok)) (PL := [(15, [0,1,2,3,6,7,4,5,8,9,10,11,12], [⟨0, [], []⟩, ⟨1, [], []⟩, ⟨2, [], []⟩, ⟨3, [], []⟩, ⟨6, [], []⟩, ⟨7, [], []⟩, ⟨4, [], [7]⟩, ⟨5, [], []⟩, ⟨8, [], []⟩, ⟨9, [], []⟩, ⟨10, [], []⟩, ⟨11, [10], []⟩, ⟨12, [], []⟩], .nil)]) (by kernel_rfl) ?_
    have hzi : (ci = 0) = False := eq_false (by omega)
    rcases Nat.lt_or_ge i (l.length) with hlti | hgei
    · have e1 : l[i]? = some l[i] := List.getElem?_eq_getElem hlti
      have hst := sm_mem h2 (List.getElem_mem hlti)
      simp only [sm_GRecord] at hst
      have hst1 := hst.1
      have hrg := h3 _ (List.getElem_mem hlti)
      have hrg1 : rg l[i].term := hrg.1
      have hrg2 : R64 l[i].value := hrg.2
      have hst3 : (l.take (i + 1)).map (recT s) = (l.take i).map (recT s) ++ [tx s l[i].term 0 ++ ⟨#[32]⟩ ++ itoaB l[i].value] := by
        rw [show tx s l[i].term 0 ++ ⟨#[32]⟩ ++ itoaB l[i].value = recT s l[i] from rfl, List.take_succ_eq_append_getElem hlti, List.map_append, List.map_cons, List.map_nil]
      have hl3 : ((l.take i).map (recT s)).length = i := by simp; omega
      have htF : termF s l[i].term = termG s l[i].term := by unfold termF; rw [if_neg (by simp [g1])]
      by_cases hok : okR s l[i]
      · have ht := term_ok hok.1
        have hp := term_place ht
        have htn := ht.nodes
        have htl := ht.len
        have h6 := tx_size hs htl.2 0
        have h7 := itoaB_size hok.2.1 (by have := hok.2.2; omega)
        have hz1 := hok.1
        have hz2 := hok.2.1
        have hz3 := hok.2.2
        have hc2 : (#[32] : Array UInt8).size = 1 := rfl
        have hGB : Bd ≠ GP := by omega
        simp (maxSteps := 2000000) (disch := first | assumption | (refine asm_intro ?_; assumption) | exact Nat.le_add_right _ _ | exact Nat.le_refl _ | omega | (simp (disch := first | exact Nat.le_add_right _ _ | omega) only [Le_upd hb, Le_rfl, free_T hb, free_upd]; done) | fail) only [go_sem, push_cast, and_pos, Le_updF, Le_upd hb, free_T hb, e1, hss, hst1, hrg1, g1, htF, hz1, hz2, hz3, htn, hp, hrg2, h4, hzi, hst3, flat_append, flat_one]
        refine ⟨fun j hj x hx => ?_, ?_⟩
        · by_cases e : j = i
          · subst e; rw [e1] at hx; cases hx; exact hok
          · exact hIi j (by omega) x hx
        · exact acc_end (by omega) (by omega) (by simp) rfl (by simp (disch := first | assumption | omega | (simp (disch := omega) only [free_upd, free_T hb]; done)) only [Le_upd2, Le_updF, Le_rfl, free_upd, free_T hb])
      · simp (maxSteps := 2000000) (disch := first | assumption | (refine asm_intro ?_; assumption) | exact Nat.le_add_right _ _ | exact Nat.le_refl _ | omega | (simp (disch := first | exact Nat.le_add_right _ _ | omega) only [Le_upd hb, Le_rfl, free_T hb, free_upd]; done) | fail) only [go_sem, push_cast, and_pos, Le_updF, Le_upd hb, free_T hb, e1, hss, hst1, hrg1, g1, htF]
        refine ⟨fun a1 => ⟨fun a2 => ?_, fun a2 a3 => absurd ⟨a1, a2, a3⟩ hok⟩, fun a1 => ?_⟩
        · have hh := recG_hit e1 hIi (fun ok => a2 ok.2)
          rw [if_neg (by simp [a1])] at hh
          rw [hh, if_pos (by decide)]; exact ⟨rfl, rfl⟩
        · have hh := recG_hit e1 hIi (fun ok => a1 ok.1)
          rw [if_pos a1] at hh
          rw [hh, if_pos a1]; exact ⟨rfl, rfl⟩
    · have hall : ∀ x ∈ l, okR s x := fun x hx => by
        obtain ⟨j, hj, rfl⟩ := List.getElem_of_mem hx
        exact hIi j (by omega) _ (List.getElem?_eq_getElem hj)
      have hz := recG_all hall
      have hsz := recs_size hs hall
      simp (maxSteps := 2000000) (disch := first | assumption | (refine asm_intro ?_; assumption) | exact Nat.le_add_right _ _ | exact Nat.le_refl _ | omega | (simp (disch := first | exact Nat.le_add_right _ _ | omega) only [Le_upd hb, Le_rfl, free_T hb, free_upd]; done) | fail) only [go_sem, push_cast, and_pos, Le_updF, Le_upd hb, free_T hb]
      refine Tr.fin2 6 (by simp (disch := first | assumption | omega) only [free_upd, free_T hb]) (by simp only [go_sem, push_cast, and_pos, Le_updF]; rfl) rfl ?_
      refine vq_conv pok (E := (((((((Env.base _).add 21 _ W21_ok).add 22 _ W22_ok).add 23 _ W23_ok).add 24 _ W24_ok).add 25 _ W25_ok).add 26 _ W26_ok)) (PL := [(15, [0,1,2,3,6,7,4,5,8,9,10,11,12], [⟨0, [], []⟩, ⟨1, [], []⟩, ⟨2, [], []⟩, ⟨3, [], []⟩, ⟨6, [], []⟩, ⟨7, [], []⟩, ⟨4, [], [7]⟩, ⟨5, [], []⟩, ⟨8, [], []⟩, ⟨9, [], []⟩, ⟨10, [], []⟩, ⟨11, [10], []⟩, ⟨12, [], []⟩], .nil)]) (by kernel_rfl) ?_
      rw [List.take_of_length_le hgei]
      simp (maxSteps := 2000000) (disch := first | assumption | (refine asm_intro ?_; assumption) | exact Nat.le_add_right _ _ | exact Nat.le_refl _ | omega | (simp (disch := first | exact Nat.le_add_right _ _ | omega) only [Le_upd hb, Le_rfl, free_T hb, free_upd]; done) | fail) only [go_sem, push_cast, and_pos, Le_updF, Le_upd hb, free_T hb, hz]
      exact ⟨by rw [List.length_map]; omega, by omega⟩
  · unfold recsR; rw [if_pos g1]; exact ⟨rfl, rfl⟩

def W10 : Trans := fun args H Bd K => ∃ (x : GTextResult) (y : GTextResult), args = [.agg (enc (x)).toArray, .agg (enc (y)).toArray] ∧ ((sm x) ∧ K (.bool (decide (x = y))) H Bd)
@[go_sem ↓] theorem W10_eq (x_code : Int) (x_text : ByteArray) (y_code : Int) (y_text : ByteArray) (H : AH) (Bd : Nat) (K : Value → AH → Nat → Prop) : W10 [.agg #[.int .i64 (x_code), .string (x_text)], .agg #[.int .i64 (y_code), .string (y_text)]] H Bd K = ((sm (GTextResult.mk x_code x_text)) ∧ K (.bool (decide ((GTextResult.mk x_code x_text) = (GTextResult.mk y_code y_text)))) H Bd) := by
  refine propext ⟨fun h => ?_, fun h => ⟨_, _, rfl, h⟩⟩
  obtain ⟨x', y', e, h⟩ := h
  obtain ⟨xcode', xtext'⟩ := x'
  obtain ⟨ycode', ytext'⟩ := y'
  simp only [enc_GTextResult, List.cons.injEq, Value.agg.injEq, toArr_inj, Value.int.injEq, Value.bool.injEq, Value.string.injEq, Value.slice.injEq, Value.pointer.injEq, Option.some.injEq, Addr.mk.injEq, lst_inj, true_and, and_true] at e
  obtain ⟨⟨rfl, rfl⟩, ⟨rfl, rfl⟩⟩ := e
  exact h
theorem W10_ok : OK 10 W10 := by
  rintro args H Bd K ⟨x, y, rfl, hpre, hK⟩
  refine fn_pure pok (Env.base _) [] _ hK Tryd.func10 rfl (rs := [.tmp 4]) rfl Tryd.ntmps10 (by simp) Tryd.call10 (by kernel_rfl) (fun ha hb => .bool _) (fun hb ha => ?_)
  simp only [sm_GTextResult] at hpre
  simp (maxSteps := 2000000) (disch := first | assumption | (refine asm_intro ?_; assumption) | exact Nat.le_add_right _ _ | exact Nat.le_refl _ | omega | (simp (disch := first | exact Nat.le_add_right _ _ | omega) only [Le_upd hb, Le_rfl, free_T hb, free_upd]; done) | fail) only [go_sem, push_cast, and_pos, Le_updF, Le_upd hb, free_T hb, hpre]
  cases x; cases y
  simp only [Cnp, GTextResult.mk.injEq]
  constructor <;> intros <;> simp_all

def W51 : Trans := fun args H Bd K => ∃ (x : GSymbol) (y : GSymbol), args = [.agg (enc (x)).toArray, .agg (enc (y)).toArray] ∧ ((sm x) ∧ K (.bool (decide (x = y))) H Bd)
@[go_sem ↓] theorem W51_eq (x_name : ByteArray) (x_arity : Int) (y_name : ByteArray) (y_arity : Int) (H : AH) (Bd : Nat) (K : Value → AH → Nat → Prop) : W51 [.agg #[.string (x_name), .int .i64 (x_arity)], .agg #[.string (y_name), .int .i64 (y_arity)]] H Bd K = ((sm (GSymbol.mk x_name x_arity)) ∧ K (.bool (decide ((GSymbol.mk x_name x_arity) = (GSymbol.mk y_name y_arity)))) H Bd) := by
  refine propext ⟨fun h => ?_, fun h => ⟨_, _, rfl, h⟩⟩
  obtain ⟨x', y', e, h⟩ := h
  obtain ⟨xname', xarity'⟩ := x'
  obtain ⟨yname', yarity'⟩ := y'
  simp only [enc_GSymbol, List.cons.injEq, Value.agg.injEq, toArr_inj, Value.int.injEq, Value.bool.injEq, Value.string.injEq, Value.slice.injEq, Value.pointer.injEq, Option.some.injEq, Addr.mk.injEq, lst_inj, true_and, and_true] at e
  obtain ⟨⟨rfl, rfl⟩, ⟨rfl, rfl⟩⟩ := e
  exact h
theorem W51_ok : OK 51 W51 := by
  rintro args H Bd K ⟨x, y, rfl, hpre, hK⟩
  refine fn_pure pok (Env.base _) [] _ hK Tryd.func51 rfl (rs := [.tmp 4]) rfl Tryd.ntmps51 (by simp) Tryd.call51 (by kernel_rfl) (fun ha hb => .bool _) (fun hb ha => ?_)
  simp only [sm_GSymbol] at hpre
  simp (maxSteps := 2000000) (disch := first | assumption | (refine asm_intro ?_; assumption) | exact Nat.le_add_right _ _ | exact Nat.le_refl _ | omega | (simp (disch := first | exact Nat.le_add_right _ _ | omega) only [Le_upd hb, Le_rfl, free_T hb, free_upd]; done) | fail) only [go_sem, push_cast, and_pos, Le_updF, Le_upd hb, free_T hb, hpre]
  cases x; cases y
  simp only [Cnp, GSymbol.mk.injEq]
  constructor <;> intros <;> simp_all

def W27 : Trans := fun args H Bd K => ∃ (xs : List GSymbol) (ys : List GSymbol), args = [lst (xs), lst (ys)] ∧ ((sm xs) ∧ K (.bool (decide (xs = ys))) H Bd)
@[go_sem ↓] theorem W27_eq (xs : List GSymbol) (ys : List GSymbol) (H : AH) (Bd : Nat) (K : Value → AH → Nat → Prop) : W27 [lst (xs), lst (ys)] H Bd K = ((sm xs) ∧ K (.bool (decide (xs = ys))) H Bd) := by
  refine propext ⟨fun h => ?_, fun h => ⟨_, _, rfl, h⟩⟩
  obtain ⟨xs', ys', e, h⟩ := h
  skip
  skip
  simp only [List.cons.injEq, Value.agg.injEq, toArr_inj, Value.int.injEq, Value.bool.injEq, Value.string.injEq, Value.slice.injEq, Value.pointer.injEq, Option.some.injEq, Addr.mk.injEq, lst_inj, true_and, and_true] at e
  obtain ⟨rfl, rfl⟩ := e
  exact h
theorem W27_ok : OK 27 W27 := by
  rintro args H Bd K ⟨xs, ys, rfl, hpre, hK⟩
  refine fn_pure pok ((Env.base _).add 51 _ W51_ok) [(6, [0,1,2,3,4,5,6,7,8,9], [⟨0, [], []⟩, ⟨1, [], []⟩, ⟨2, [], []⟩, ⟨3, [], []⟩, ⟨4, [], []⟩, ⟨5, [], []⟩, ⟨6, [], []⟩, ⟨7, [], []⟩, ⟨8, [], []⟩, ⟨9, [], []⟩], .nil)] _ hK Tryd.func27 rfl (rs := [.tmp 4]) rfl Tryd.ntmps27 (by simp) Tryd.call27 (by kernel_rfl) (fun ha hb => .bool _) (fun hb ha => ?_)
  have hlen := sm_len hpre
  simp (maxSteps := 2000000) (disch := first | assumption | (refine asm_intro ?_; assumption) | exact Nat.le_add_right _ _ | exact Nat.le_refl _ | omega | (simp (disch := first | exact Nat.le_add_right _ _ | omega) only [Le_upd hb, Le_rfl, free_T hb, free_upd]; done) | fail) only [go_sem, push_cast, and_pos, Le_updF, Le_upd hb, free_T hb]
  refine Cnp.of (fun hl => ?_) (fun hl => cmp_len (by omega))
  have hl' : xs.length = ys.length := by omega
  refine tr_for (fun i => ∀ j, j < i → xs[j]? = ys[j]?) xs.length (fun i => [(0, lst xs), (1, lst ys), (5, .int .i64 i)]) (fun j h => by omega) (by simp only [go_sem, push_cast, and_pos, Le_updF]) ?_
  intro i B0 hI hi hB
  refine vq_conv pok (E := ((Env.base _).add 51 _ W51_ok)) (PL := [(6, [0,1,2,3,4,5,6,7,8,9], [⟨0, [], []⟩, ⟨1, [], []⟩, ⟨2, [], []⟩, ⟨3, [], []⟩, ⟨4, [], []⟩, ⟨5, [], []⟩, ⟨6, [], []⟩, ⟨7, [], []⟩, ⟨8, [], []⟩, ⟨9, [], []⟩], .nil)]) (by kernel_rfl) ?_
  rcases Nat.lt_or_ge i xs.length with hlt | hge
  · have e1 : xs[i]? = some xs[i] := List.getElem?_eq_getElem hlt
    have e2 : ys[i]? = some (ys[i]'(by omega)) := List.getElem?_eq_getElem _
    have hx := sm_mem hpre (List.getElem_mem hlt)
    simp (maxSteps := 2000000) (disch := first | assumption | (refine asm_intro ?_; assumption) | exact Nat.le_add_right _ _ | exact Nat.le_refl _ | omega | (simp (disch := first | exact Nat.le_add_right _ _ | omega) only [Le_upd hb, Le_rfl, free_T hb, free_upd]; done) | fail) only [go_sem, push_cast, and_pos, Le_updF, Le_upd hb, free_T hb, e1, e2, hx]
    exact cmp_step hl' hI hlt (by omega) rfl fun h => h
  · simp (maxSteps := 2000000) (disch := first | assumption | (refine asm_intro ?_; assumption) | exact Nat.le_add_right _ _ | exact Nat.le_refl _ | omega | (simp (disch := first | exact Nat.le_add_right _ _ | omega) only [Le_upd hb, Le_rfl, free_T hb, free_upd]; done) | fail) only [go_sem, push_cast, and_pos, Le_updF, Le_upd hb, free_T hb]
    refine vq_conv pok (E := ((Env.base _).add 51 _ W51_ok)) (PL := [(6, [0,1,2,3,4,5,6,7,8,9], [⟨0, [], []⟩, ⟨1, [], []⟩, ⟨2, [], []⟩, ⟨3, [], []⟩, ⟨4, [], []⟩, ⟨5, [], []⟩, ⟨6, [], []⟩, ⟨7, [], []⟩, ⟨8, [], []⟩, ⟨9, [], []⟩], .nil)]) (by kernel_rfl) ?_
    simp (maxSteps := 2000000) (disch := first | assumption | (refine asm_intro ?_; assumption) | exact Nat.le_add_right _ _ | exact Nat.le_refl _ | omega | (simp (disch := first | exact Nat.le_add_right _ _ | omega) only [Le_upd hb, Le_rfl, free_T hb, free_upd]; done) | fail) only [go_sem, push_cast, and_pos, Le_updF, Le_upd hb, free_T hb]
    exact cmp_end hl' hI hge

def W11 : Trans := fun args H Bd K => ∃ (x : GSignature) (y : GSignature), args = [.agg (enc (x)).toArray, .agg (enc (y)).toArray] ∧ ((sm x) ∧ K (.bool (decide (x = y))) H Bd)
@[go_sem ↓] theorem W11_eq (x_symbols : List GSymbol) (y_symbols : List GSymbol) (H : AH) (Bd : Nat) (K : Value → AH → Nat → Prop) : W11 [.agg #[lst (x_symbols)], .agg #[lst (y_symbols)]] H Bd K = ((sm (GSignature.mk x_symbols)) ∧ K (.bool (decide ((GSignature.mk x_symbols) = (GSignature.mk y_symbols)))) H Bd) := by
  refine propext ⟨fun h => ?_, fun h => ⟨_, _, rfl, h⟩⟩
  obtain ⟨x', y', e, h⟩ := h
  obtain ⟨xsymbols'⟩ := x'
  obtain ⟨ysymbols'⟩ := y'
  simp only [enc_GSignature, List.cons.injEq, Value.agg.injEq, toArr_inj, Value.int.injEq, Value.bool.injEq, Value.string.injEq, Value.slice.injEq, Value.pointer.injEq, Option.some.injEq, Addr.mk.injEq, lst_inj, true_and, and_true] at e
  obtain ⟨rfl, rfl⟩ := e
  exact h
theorem W11_ok : OK 11 W11 := by
  rintro args H Bd K ⟨x, y, rfl, hpre, hK⟩
  refine fn_pure pok ((Env.base _).add 27 _ W27_ok) [] _ hK Tryd.func11 rfl (rs := [.tmp 4]) rfl Tryd.ntmps11 (by simp) Tryd.call11 (by kernel_rfl) (fun ha hb => .bool _) (fun hb ha => ?_)
  simp only [sm_GSignature] at hpre
  simp (maxSteps := 2000000) (disch := first | assumption | (refine asm_intro ?_; assumption) | exact Nat.le_add_right _ _ | exact Nat.le_refl _ | omega | (simp (disch := first | exact Nat.le_add_right _ _ | omega) only [Le_upd hb, Le_rfl, free_T hb, free_upd]; done) | fail) only [go_sem, push_cast, and_pos, Le_updF, Le_upd hb, free_T hb, hpre]
  cases x; cases y
  simp only [Cnp, GSignature.mk.injEq]
  constructor <;> intros <;> simp_all

def W52 : Trans := fun args H Bd K => ∃ (xs : List Int) (ys : List Int), args = [lst (xs), lst (ys)] ∧ ((sm xs) ∧ K (.bool (decide (xs = ys))) H Bd)
@[go_sem ↓] theorem W52_eq (xs : List Int) (ys : List Int) (H : AH) (Bd : Nat) (K : Value → AH → Nat → Prop) : W52 [lst (xs), lst (ys)] H Bd K = ((sm xs) ∧ K (.bool (decide (xs = ys))) H Bd) := by
  refine propext ⟨fun h => ?_, fun h => ⟨_, _, rfl, h⟩⟩
  obtain ⟨xs', ys', e, h⟩ := h
  skip
  skip
  simp only [List.cons.injEq, Value.agg.injEq, toArr_inj, Value.int.injEq, Value.bool.injEq, Value.string.injEq, Value.slice.injEq, Value.pointer.injEq, Option.some.injEq, Addr.mk.injEq, lst_inj, true_and, and_true] at e
  obtain ⟨rfl, rfl⟩ := e
  exact h
theorem W52_ok : OK 52 W52 := by
  rintro args H Bd K ⟨xs, ys, rfl, hpre, hK⟩
  refine fn_pure pok (Env.base _) [(6, [0,1,2,3,4,5,6,7,8], [⟨0, [], []⟩, ⟨1, [], []⟩, ⟨2, [], []⟩, ⟨3, [], []⟩, ⟨4, [], []⟩, ⟨5, [], []⟩, ⟨6, [], []⟩, ⟨7, [], []⟩, ⟨8, [], []⟩], .nil)] _ hK Tryd.func52 rfl (rs := [.tmp 4]) rfl Tryd.ntmps52 (by simp) Tryd.call52 (by kernel_rfl) (fun ha hb => .bool _) (fun hb ha => ?_)
  have hlen := sm_len hpre
  simp (maxSteps := 2000000) (disch := first | assumption | (refine asm_intro ?_; assumption) | exact Nat.le_add_right _ _ | exact Nat.le_refl _ | omega | (simp (disch := first | exact Nat.le_add_right _ _ | omega) only [Le_upd hb, Le_rfl, free_T hb, free_upd]; done) | fail) only [go_sem, push_cast, and_pos, Le_updF, Le_upd hb, free_T hb]
  refine Cnp.of (fun hl => ?_) (fun hl => cmp_len (by omega))
  have hl' : xs.length = ys.length := by omega
  refine tr_for (fun i => ∀ j, j < i → xs[j]? = ys[j]?) xs.length (fun i => [(0, lst xs), (1, lst ys), (5, .int .i64 i)]) (fun j h => by omega) (by simp only [go_sem, push_cast, and_pos, Le_updF]) ?_
  intro i B0 hI hi hB
  refine vq_conv pok (E := (Env.base _)) (PL := [(6, [0,1,2,3,4,5,6,7,8], [⟨0, [], []⟩, ⟨1, [], []⟩, ⟨2, [], []⟩, ⟨3, [], []⟩, ⟨4, [], []⟩, ⟨5, [], []⟩, ⟨6, [], []⟩, ⟨7, [], []⟩, ⟨8, [], []⟩], .nil)]) (by kernel_rfl) ?_
  rcases Nat.lt_or_ge i xs.length with hlt | hge
  · have e1 : xs[i]? = some xs[i] := List.getElem?_eq_getElem hlt
    have e2 : ys[i]? = some (ys[i]'(by omega)) := List.getElem?_eq_getElem _
    have hx := sm_mem hpre (List.getElem_mem hlt)
    simp (maxSteps := 2000000) (disch := first | assumption | (refine asm_intro ?_; assumption) | exact Nat.le_add_right _ _ | exact Nat.le_refl _ | omega | (simp (disch := first | exact Nat.le_add_right _ _ | omega) only [Le_upd hb, Le_rfl, free_T hb, free_upd]; done) | fail) only [go_sem, push_cast, and_pos, Le_updF, Le_upd hb, free_T hb, e1, e2, hx]
    exact cmp_step hl' hI hlt (by omega) rfl fun h => h
  · simp (maxSteps := 2000000) (disch := first | assumption | (refine asm_intro ?_; assumption) | exact Nat.le_add_right _ _ | exact Nat.le_refl _ | omega | (simp (disch := first | exact Nat.le_add_right _ _ | omega) only [Le_upd hb, Le_rfl, free_T hb, free_upd]; done) | fail) only [go_sem, push_cast, and_pos, Le_updF, Le_upd hb, free_T hb]
    refine vq_conv pok (E := (Env.base _)) (PL := [(6, [0,1,2,3,4,5,6,7,8], [⟨0, [], []⟩, ⟨1, [], []⟩, ⟨2, [], []⟩, ⟨3, [], []⟩, ⟨4, [], []⟩, ⟨5, [], []⟩, ⟨6, [], []⟩, ⟨7, [], []⟩, ⟨8, [], []⟩], .nil)]) (by kernel_rfl) ?_
    simp (maxSteps := 2000000) (disch := first | assumption | (refine asm_intro ?_; assumption) | exact Nat.le_add_right _ _ | exact Nat.le_refl _ | omega | (simp (disch := first | exact Nat.le_add_right _ _ | omega) only [Le_upd hb, Le_rfl, free_T hb, free_upd]; done) | fail) only [go_sem, push_cast, and_pos, Le_updF, Le_upd hb, free_T hb]
    exact cmp_end hl' hI hge

def W28 : Trans := fun args H Bd K => ∃ (x : GRecord) (y : GRecord), args = [.agg (enc (x)).toArray, .agg (enc (y)).toArray] ∧ ((sm x) ∧ K (.bool (decide (x = y))) H Bd)
@[go_sem ↓] theorem W28_eq (x_term : List Int) (x_value : Int) (y_term : List Int) (y_value : Int) (H : AH) (Bd : Nat) (K : Value → AH → Nat → Prop) : W28 [.agg #[lst (x_term), .int .i64 (x_value)], .agg #[lst (y_term), .int .i64 (y_value)]] H Bd K = ((sm (GRecord.mk x_term x_value)) ∧ K (.bool (decide ((GRecord.mk x_term x_value) = (GRecord.mk y_term y_value)))) H Bd) := by
  refine propext ⟨fun h => ?_, fun h => ⟨_, _, rfl, h⟩⟩
  obtain ⟨x', y', e, h⟩ := h
  obtain ⟨xterm', xvalue'⟩ := x'
  obtain ⟨yterm', yvalue'⟩ := y'
  simp only [enc_GRecord, List.cons.injEq, Value.agg.injEq, toArr_inj, Value.int.injEq, Value.bool.injEq, Value.string.injEq, Value.slice.injEq, Value.pointer.injEq, Option.some.injEq, Addr.mk.injEq, lst_inj, true_and, and_true] at e
  obtain ⟨⟨rfl, rfl⟩, ⟨rfl, rfl⟩⟩ := e
  exact h
theorem W28_ok : OK 28 W28 := by
  rintro args H Bd K ⟨x, y, rfl, hpre, hK⟩
  refine fn_pure pok ((Env.base _).add 52 _ W52_ok) [] _ hK Tryd.func28 rfl (rs := [.tmp 4]) rfl Tryd.ntmps28 (by simp) Tryd.call28 (by kernel_rfl) (fun ha hb => .bool _) (fun hb ha => ?_)
  simp only [sm_GRecord] at hpre
  simp (maxSteps := 2000000) (disch := first | assumption | (refine asm_intro ?_; assumption) | exact Nat.le_add_right _ _ | exact Nat.le_refl _ | omega | (simp (disch := first | exact Nat.le_add_right _ _ | omega) only [Le_upd hb, Le_rfl, free_T hb, free_upd]; done) | fail) only [go_sem, push_cast, and_pos, Le_updF, Le_upd hb, free_T hb, hpre]
  cases x; cases y
  simp only [Cnp, GRecord.mk.injEq]
  constructor <;> intros <;> simp_all

def W12 : Trans := fun args H Bd K => ∃ (xs : List GRecord) (ys : List GRecord), args = [lst (xs), lst (ys)] ∧ ((sm xs) ∧ K (.bool (decide (xs = ys))) H Bd)
@[go_sem ↓] theorem W12_eq (xs : List GRecord) (ys : List GRecord) (H : AH) (Bd : Nat) (K : Value → AH → Nat → Prop) : W12 [lst (xs), lst (ys)] H Bd K = ((sm xs) ∧ K (.bool (decide (xs = ys))) H Bd) := by
  refine propext ⟨fun h => ?_, fun h => ⟨_, _, rfl, h⟩⟩
  obtain ⟨xs', ys', e, h⟩ := h
  skip
  skip
  simp only [List.cons.injEq, Value.agg.injEq, toArr_inj, Value.int.injEq, Value.bool.injEq, Value.string.injEq, Value.slice.injEq, Value.pointer.injEq, Option.some.injEq, Addr.mk.injEq, lst_inj, true_and, and_true] at e
  obtain ⟨rfl, rfl⟩ := e
  exact h
theorem W12_ok : OK 12 W12 := by
  rintro args H Bd K ⟨xs, ys, rfl, hpre, hK⟩
  refine fn_pure pok ((Env.base _).add 28 _ W28_ok) [(6, [0,1,2,3,4,5,6,7,8,9], [⟨0, [], []⟩, ⟨1, [], []⟩, ⟨2, [], []⟩, ⟨3, [], []⟩, ⟨4, [], []⟩, ⟨5, [], []⟩, ⟨6, [], []⟩, ⟨7, [], []⟩, ⟨8, [], []⟩, ⟨9, [], []⟩], .nil)] _ hK Tryd.func12 rfl (rs := [.tmp 4]) rfl Tryd.ntmps12 (by simp) Tryd.call12 (by kernel_rfl) (fun ha hb => .bool _) (fun hb ha => ?_)
  have hlen := sm_len hpre
  simp (maxSteps := 2000000) (disch := first | assumption | (refine asm_intro ?_; assumption) | exact Nat.le_add_right _ _ | exact Nat.le_refl _ | omega | (simp (disch := first | exact Nat.le_add_right _ _ | omega) only [Le_upd hb, Le_rfl, free_T hb, free_upd]; done) | fail) only [go_sem, push_cast, and_pos, Le_updF, Le_upd hb, free_T hb]
  refine Cnp.of (fun hl => ?_) (fun hl => cmp_len (by omega))
  have hl' : xs.length = ys.length := by omega
  refine tr_for (fun i => ∀ j, j < i → xs[j]? = ys[j]?) xs.length (fun i => [(0, lst xs), (1, lst ys), (5, .int .i64 i)]) (fun j h => by omega) (by simp only [go_sem, push_cast, and_pos, Le_updF]) ?_
  intro i B0 hI hi hB
  refine vq_conv pok (E := ((Env.base _).add 28 _ W28_ok)) (PL := [(6, [0,1,2,3,4,5,6,7,8,9], [⟨0, [], []⟩, ⟨1, [], []⟩, ⟨2, [], []⟩, ⟨3, [], []⟩, ⟨4, [], []⟩, ⟨5, [], []⟩, ⟨6, [], []⟩, ⟨7, [], []⟩, ⟨8, [], []⟩, ⟨9, [], []⟩], .nil)]) (by kernel_rfl) ?_
  rcases Nat.lt_or_ge i xs.length with hlt | hge
  · have e1 : xs[i]? = some xs[i] := List.getElem?_eq_getElem hlt
    have e2 : ys[i]? = some (ys[i]'(by omega)) := List.getElem?_eq_getElem _
    have hx := sm_mem hpre (List.getElem_mem hlt)
    simp (maxSteps := 2000000) (disch := first | assumption | (refine asm_intro ?_; assumption) | exact Nat.le_add_right _ _ | exact Nat.le_refl _ | omega | (simp (disch := first | exact Nat.le_add_right _ _ | omega) only [Le_upd hb, Le_rfl, free_T hb, free_upd]; done) | fail) only [go_sem, push_cast, and_pos, Le_updF, Le_upd hb, free_T hb, e1, e2, hx]
    exact cmp_step hl' hI hlt (by omega) rfl fun h => h
  · simp (maxSteps := 2000000) (disch := first | assumption | (refine asm_intro ?_; assumption) | exact Nat.le_add_right _ _ | exact Nat.le_refl _ | omega | (simp (disch := first | exact Nat.le_add_right _ _ | omega) only [Le_upd hb, Le_rfl, free_T hb, free_upd]; done) | fail) only [go_sem, push_cast, and_pos, Le_updF, Le_upd hb, free_T hb]
    refine vq_conv pok (E := ((Env.base _).add 28 _ W28_ok)) (PL := [(6, [0,1,2,3,4,5,6,7,8,9], [⟨0, [], []⟩, ⟨1, [], []⟩, ⟨2, [], []⟩, ⟨3, [], []⟩, ⟨4, [], []⟩, ⟨5, [], []⟩, ⟨6, [], []⟩, ⟨7, [], []⟩, ⟨8, [], []⟩, ⟨9, [], []⟩], .nil)]) (by kernel_rfl) ?_
    simp (maxSteps := 2000000) (disch := first | assumption | (refine asm_intro ?_; assumption) | exact Nat.le_add_right _ _ | exact Nat.le_refl _ | omega | (simp (disch := first | exact Nat.le_add_right _ _ | omega) only [Le_upd hb, Le_rfl, free_T hb, free_upd]; done) | fail) only [go_sem, push_cast, and_pos, Le_updF, Le_upd hb, free_T hb]
    exact cmp_end hl' hI hge

def W3 : Trans := fun args H Bd K => ∃ (x : GSignature) (y : List GRecord), args = [.agg (enc (x)).toArray, lst (y)] ∧ ((sm x ∧ sm y ∧ rg y ∧ PT H ∧ GP < Bd) ∧ K (.bool (true)) H Bd)
@[go_sem ↓] theorem W3_eq (x_symbols : List GSymbol) (y : List GRecord) (H : AH) (Bd : Nat) (K : Value → AH → Nat → Prop) : W3 [.agg #[lst (x_symbols)], lst (y)] H Bd K = ((sm (GSignature.mk x_symbols) ∧ sm y ∧ rg y ∧ PT H ∧ GP < Bd) ∧ K (.bool (true)) H Bd) := by
  refine propext ⟨fun h => ?_, fun h => ⟨_, _, rfl, h⟩⟩
  obtain ⟨x', y', e, h⟩ := h
  obtain ⟨xsymbols'⟩ := x'
  skip
  simp only [enc_GSignature, List.cons.injEq, Value.agg.injEq, toArr_inj, Value.int.injEq, Value.bool.injEq, Value.string.injEq, Value.slice.injEq, Value.pointer.injEq, Option.some.injEq, Addr.mk.injEq, lst_inj, true_and, and_true] at e
  obtain ⟨rfl, rfl⟩ := e
  exact h
set_option maxHeartbeats 2000000 in
theorem W3_ok : OK 3 W3 := by
  rintro args H Bd K ⟨x, y, rfl, hpre, hK⟩
  refine fn_pure pok ((((((((((Env.base _).add 4 _ W4_ok).add 5 _ W5_ok).add 7 _ W7_ok).add 8 _ W8_ok).add 6 _ W6_ok).add 9 _ W9_ok).add 10 _ W10_ok).add 11 _ W11_ok).add 12 _ W12_ok) [(14, [0,1,2,3,4], [⟨0, [], []⟩, ⟨1, [], []⟩, ⟨2, [], [0]⟩, ⟨3, [], []⟩, ⟨4, [], []⟩], .nil)] _ hK Tryd.func3 rfl (rs := [.tmp 4]) rfl Tryd.ntmps3 (by simp) Tryd.call3 (by kernel_rfl) (fun ha hb => .bool _) (fun hb ha => ?_)
  have hpre2 := hpre
  obtain ⟨h0, h1, h2, hPT, hGP⟩ := hpre
  have hl1 := sm_len h1
  have z0 := szP_or (tot x) (1048576)
  have y0 := szP_ub (tot x) (left := 1048576) (by omega)
  have z1 := szP_or (tot y) (szP (tot x) (1048576))
  have y1 := szP_ub (tot y) (left := szP (tot x) (1048576)) (by omega)
  simp (maxSteps := 2000000) (disch := first | assumption | (refine asm_intro ?_; assumption) | exact Nat.le_add_right _ _ | exact Nat.le_refl _ | omega | (simp (disch := first | exact Nat.le_add_right _ _ | omega) only [Le_upd hb, Le_rfl, free_T hb, free_upd]; done) | fail) only [go_sem, push_cast, and_pos, Le_updF, Le_upd hb, free_T hb, h0, h1, h2, sm_recsR, hPT]
  all_goals (simp only [Cnp, Imp]; (repeat' (first | apply And.intro | intro _)) <;> first | trivial | omega)

end Go.Proofs.YtahnmogcmiajeaaDoor
