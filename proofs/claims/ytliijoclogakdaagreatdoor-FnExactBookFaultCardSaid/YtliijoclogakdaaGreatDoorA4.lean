/- YtliijoclogakdaaGreatDoorA4 -/
import Derived.Test.YtliijoclogakdaaGreatDoorA3
set_option linter.unusedSimpArgs false
set_option linter.unusedVariables false
set_option maxRecDepth 20000
namespace Go.Proofs.YtliijoclogakdaaGreatDoor
open Go Go.SC
def W137 : Trans := fun args H Bd K => ∃ (s : GSignature) (t : List Int) (a : Int), args = [.agg (enc (s)).toArray, lst (t), .int .i64 (a)] ∧ ((sm s ∧ sm t ∧ sigF s = 0 ∧ nodes s t ∧ 0 ≤ a ∧ a < t.length ∧ 0 ≤ ep s t 1 a.toNat) ∧ K (lst (argsP s t a.toNat (arN s (t.getD a.toNat 0)))) H Bd)
@[go_sem ↓] theorem W137_eq (s_symbols : List GSymbol) (t : List Int) (a : Int) (H : AH) (Bd : Nat) (K : Value → AH → Nat → Prop) : W137 [.agg #[lst (s_symbols)], lst (t), .int .i64 (a)] H Bd K = ((sm (GSignature.mk s_symbols) ∧ sm t ∧ sigF (GSignature.mk s_symbols) = 0 ∧ nodes (GSignature.mk s_symbols) t ∧ 0 ≤ a ∧ a < t.length ∧ 0 ≤ ep (GSignature.mk s_symbols) t 1 a.toNat) ∧ K (lst (argsP (GSignature.mk s_symbols) t a.toNat (arN (GSignature.mk s_symbols) (t.getD a.toNat 0)))) H Bd) := by
  refine propext ⟨fun h => ?_, fun h => ⟨_, _, _, rfl, h⟩⟩
  obtain ⟨s', t', a', e, h⟩ := h
  obtain ⟨ssymbols'⟩ := s'
  skip
  skip
  simp only [enc_GSignature, List.cons.injEq, Value.agg.injEq, toArr_inj, Value.int.injEq, Value.bool.injEq, Value.string.injEq, Value.slice.injEq, Value.func.injEq, Value.pointer.injEq, Option.some.injEq, Addr.mk.injEq, lst_inj, true_and, and_true] at e
  obtain ⟨rfl, rfl, rfl⟩ := e
  exact h
set_option maxHeartbeats 2000000 in
theorem W137_ok : OK 137 W137 := by
  rintro args H Bd K ⟨s, t, a, rfl, hpre, hK⟩
  refine fn_pure pok (((Env.base _).add 119 _ W119_ok).add 95 _ W95_ok) [(3, [0,1,2,3,4,6,5], [⟨0, [], []⟩, ⟨1, [], []⟩, ⟨2, [], []⟩, ⟨3, [], []⟩, ⟨4, [], []⟩, ⟨6, [], []⟩, ⟨5, [], []⟩], .nil)] _ hK Tryz.func137 rfl (rs := [.tmp 6]) rfl Tryz.ntmps137 (by simp) Tryz.call137 (by kernel_rfl) (fun ha hb => lst_nb _ _) (fun hb ha => ?_)
  obtain ⟨h1, h2, h3, h4, h5, h6, h8⟩ := hpre
  have hss : sm s := h1
  have hlt2 := sm_len h2
  have hs := sig_ok h3
  obtain ⟨a, rfl⟩ := Int.eq_ofNat_of_zero_le h5
  simp only [Int.toNat_natCast] at h8
  have hlt : a < t.length := by omega
  have e1 : t[a]? = some t[a] := List.getElem?_eq_getElem hlt
  have e3 : t.getD a 0 = t[a] := by rw [List.getD_eq_getElem?_getD, e1]; rfl
  have hn := h4 _ (List.getElem_mem hlt)
  have ha2 := arN_le hs t[a]
  rw [ep_node 0 e1, Nat.zero_add] at h8
  have hn2 := hn.2
  simp (maxSteps := 2000000) (disch := first | assumption | (refine asm_intro ?_; assumption) | exact Nat.le_add_right _ _ | exact Nat.le_refl _ | omega | (simp (disch := first | exact Nat.le_add_right _ _ | omega) only [Le_upd hb, Le_app hb, Le_rfl, free_T hb, free_upd]; done) | fail) only [go_sem, push_cast, and_pos, Le_updF, Le_upd hb, free_T hb, e1, e3, hss, h3, hn2]
  refine tr_acc (α := Int) (H0 := upd H Bd (some ⟨[lst s.symbols], true⟩)) (B0 := Bd + 1) (n0 := Bd + 1) (arN s t[a]) (fun i => argsP s t a i) (fun i out => [(1, lst t), (3, .pointer (some ⟨Bd, 0, none⟩)), (7, out), (8, .int .i64 (ep s t i (a + 1))), (17, .int .i64 (arN s t[a])), (18, .int .i64 i)]) (Nat.le_refl 1) ⟨by omega, by omega⟩ (by simp only [go_sem, push_cast, and_pos, Le_updF, argsP_zero, ep_zero (show a + 1 ≤ t.length by omega)]) (by simp (disch := first | assumption | omega) only [go_sem, push_cast, and_pos, Le_updF, flat_nil, argsP_zero, ep_zero (show a + 1 ≤ t.length by omega)]) ?_
  intro i ni ci Bi hii hci hni hmi hBi hbi
  refine vq_conv pok (E := (((Env.base _).add 119 _ W119_ok).add 95 _ W95_ok)) (PL := [(3, [0,1,2,3,4,6,5], [⟨0, [], []⟩, ⟨1, [], []⟩, ⟨2, [], []⟩, ⟨3, [], []⟩, ⟨4, [], []⟩, ⟨6, [], []⟩, ⟨5, [], []⟩], .nil)]) (by kernel_rfl) ?_
  have hzi : (ci = 0) = False := eq_false (by omega)
  rcases Nat.lt_or_ge i (arN s t[a]) with hlti | hgei
  · obtain ⟨m, q1, q2, q3, q4, q5⟩ := arg_at hlt h8 hlti
    have hcv : ((a : Int) + 1 + m).toNat = a + 1 + m := by omega
    have hst := argsP_succ s t a i
    rw [q3] at hst
    have hl3 := argsP_len s t a i
    have hif : (if ep s t 1 (a + 1 + m) < 0 then (t.length : Int) + 1 else ep s t 1 (a + 1 + m)) = ep s t 1 (a + 1 + m) := if_neg (by omega)
    simp (maxSteps := 2000000) (disch := first | assumption | (refine asm_intro ?_; assumption) | exact Nat.le_add_right _ _ | exact Nat.le_refl _ | omega | (simp (disch := first | exact Nat.le_add_right _ _ | omega) only [Le_upd hb, Le_app hb, Le_rfl, free_T hb, free_upd]; done) | fail) only [go_sem, push_cast, and_pos, Le_updF, Le_upd hb, free_T hb, q3, q4, hcv, hss, h2, h3, h4, hzi, hst, hif, flat_append, flat_one]
    exact acc_end (by omega) (by omega) (by simp) rfl (by simp (disch := first | assumption | omega | (simp (disch := omega) only [free_upd, free_T hb]; done)) only [Le_upd2, Le_updF, Le_rfl, free_upd, free_T hb])
  · simp (maxSteps := 2000000) (disch := first | assumption | (refine asm_intro ?_; assumption) | exact Nat.le_add_right _ _ | exact Nat.le_refl _ | omega | (simp (disch := first | exact Nat.le_add_right _ _ | omega) only [Le_upd hb, Le_app hb, Le_rfl, free_T hb, free_upd]; done) | fail) only [go_sem, push_cast, and_pos, Le_updF, Le_upd hb, free_T hb]
    refine Tr.fin2 7 (by simp (disch := first | assumption | omega) only [free_upd, free_T hb]) (by simp only [go_sem, push_cast, and_pos, Le_updF]; rfl) rfl ?_
    refine vq_conv pok (E := (((Env.base _).add 119 _ W119_ok).add 95 _ W95_ok)) (PL := [(3, [0,1,2,3,4,6,5], [⟨0, [], []⟩, ⟨1, [], []⟩, ⟨2, [], []⟩, ⟨3, [], []⟩, ⟨4, [], []⟩, ⟨6, [], []⟩, ⟨5, [], []⟩], .nil)]) (by kernel_rfl) ?_
    rw [← show i = arN s t[a] by omega]
    simp (maxSteps := 2000000) (disch := first | assumption | (refine asm_intro ?_; assumption) | exact Nat.le_add_right _ _ | exact Nat.le_refl _ | omega | (simp (disch := first | exact Nat.le_add_right _ _ | omega) only [Le_upd hb, Le_app hb, Le_rfl, free_T hb, free_upd]; done) | fail) only [go_sem, push_cast, and_pos, Le_updF, Le_upd hb, free_T hb]
def W56 : Trans := fun args H Bd K => ∃ (xs : List Int) (ys : List Int), args = [lst (xs), lst (ys)] ∧ ((sm xs) ∧ K (.bool (decide (xs = ys))) H Bd)
@[go_sem ↓] theorem W56_eq (xs : List Int) (ys : List Int) (H : AH) (Bd : Nat) (K : Value → AH → Nat → Prop) : W56 [lst (xs), lst (ys)] H Bd K = ((sm xs) ∧ K (.bool (decide (xs = ys))) H Bd) := by
  refine propext ⟨fun h => ?_, fun h => ⟨_, _, rfl, h⟩⟩
  obtain ⟨xs', ys', e, h⟩ := h
  skip
  skip
  simp only [List.cons.injEq, Value.agg.injEq, toArr_inj, Value.int.injEq, Value.bool.injEq, Value.string.injEq, Value.slice.injEq, Value.func.injEq, Value.pointer.injEq, Option.some.injEq, Addr.mk.injEq, lst_inj, true_and, and_true] at e
  obtain ⟨rfl, rfl⟩ := e
  exact h
theorem W56_ok : OK 56 W56 := by
  rintro args H Bd K ⟨xs, ys, rfl, hpre, hK⟩
  refine fn_pure pok (Env.base _) [(6, [0,1,2,3,4,5,6,7,8], [⟨0, [], []⟩, ⟨1, [], []⟩, ⟨2, [], []⟩, ⟨3, [], []⟩, ⟨4, [], []⟩, ⟨5, [], []⟩, ⟨6, [], []⟩, ⟨7, [], []⟩, ⟨8, [], []⟩], .nil)] _ hK Tryz.func56 rfl (rs := [.tmp 4]) rfl Tryz.ntmps56 (by simp) Tryz.call56 (by kernel_rfl) (fun ha hb => .bool _) (fun hb ha => ?_)
  have hlen := sm_len hpre
  simp (maxSteps := 2000000) (disch := first | assumption | (refine asm_intro ?_; assumption) | exact Nat.le_add_right _ _ | exact Nat.le_refl _ | omega | (simp (disch := first | exact Nat.le_add_right _ _ | omega) only [Le_upd hb, Le_app hb, Le_rfl, free_T hb, free_upd]; done) | fail) only [go_sem, push_cast, and_pos, Le_updF, Le_upd hb, free_T hb]
  refine Cnp.of (fun hl => ?_) (fun hl => cmp_len (by omega))
  have hl' : xs.length = ys.length := by omega
  refine tr_for (fun i => ∀ j, j < i → xs[j]? = ys[j]?) xs.length (fun i => [(0, lst xs), (1, lst ys), (12, .int .i64 xs.length), (13, .int .i64 i)]) (fun j h => by omega) (by simp only [go_sem, push_cast, and_pos, Le_updF]) ?_
  intro i B0 hI hi hB
  refine vq_conv pok (E := (Env.base _)) (PL := [(6, [0,1,2,3,4,5,6,7,8], [⟨0, [], []⟩, ⟨1, [], []⟩, ⟨2, [], []⟩, ⟨3, [], []⟩, ⟨4, [], []⟩, ⟨5, [], []⟩, ⟨6, [], []⟩, ⟨7, [], []⟩, ⟨8, [], []⟩], .nil)]) (by kernel_rfl) ?_
  rcases Nat.lt_or_ge i xs.length with hlt | hge
  · have e1 : xs[i]? = some xs[i] := List.getElem?_eq_getElem hlt
    have e2 : ys[i]? = some (ys[i]'(by omega)) := List.getElem?_eq_getElem _
    have hx := sm_mem hpre (List.getElem_mem hlt)
    simp (maxSteps := 2000000) (disch := first | assumption | (refine asm_intro ?_; assumption) | exact Nat.le_add_right _ _ | exact Nat.le_refl _ | omega | (simp (disch := first | exact Nat.le_add_right _ _ | omega) only [Le_upd hb, Le_app hb, Le_rfl, free_T hb, free_upd]; done) | fail) only [go_sem, push_cast, and_pos, Le_updF, Le_upd hb, free_T hb, e1, e2, hx]
    exact cmp_step hl' hI hlt (by omega) rfl fun h => h
  · simp (maxSteps := 2000000) (disch := first | assumption | (refine asm_intro ?_; assumption) | exact Nat.le_add_right _ _ | exact Nat.le_refl _ | omega | (simp (disch := first | exact Nat.le_add_right _ _ | omega) only [Le_upd hb, Le_app hb, Le_rfl, free_T hb, free_upd]; done) | fail) only [go_sem, push_cast, and_pos, Le_updF, Le_upd hb, free_T hb]
    refine vq_conv pok (E := (Env.base _)) (PL := [(6, [0,1,2,3,4,5,6,7,8], [⟨0, [], []⟩, ⟨1, [], []⟩, ⟨2, [], []⟩, ⟨3, [], []⟩, ⟨4, [], []⟩, ⟨5, [], []⟩, ⟨6, [], []⟩, ⟨7, [], []⟩, ⟨8, [], []⟩], .nil)]) (by kernel_rfl) ?_
    simp (maxSteps := 2000000) (disch := first | assumption | (refine asm_intro ?_; assumption) | exact Nat.le_add_right _ _ | exact Nat.le_refl _ | omega | (simp (disch := first | exact Nat.le_add_right _ _ | omega) only [Le_upd hb, Le_app hb, Le_rfl, free_T hb, free_upd]; done) | fail) only [go_sem, push_cast, and_pos, Le_updF, Le_upd hb, free_T hb]
    exact cmp_end hl' hI hge
def V138 : Trans := fun args H Bd K => ∃ (c : GComparer) (i : Int) (k : Int), args = [.agg (enc (c)).toArray, .int .i64 (i), .int .i64 (k)] ∧ ((CmpOK c ∧ 0 ≤ i ∧ i < c.a.length ∧ 0 ≤ k ∧ k < c.b.length) ∧ K (.bool (decide (subT c.s c.a i.toNat = subT c.s c.b k.toNat))) H Bd)
@[go_sem ↓] theorem V138_eq (c_s_symbols : List GSymbol) (c_order : List Int) (c_a : List Int) (c_b : List Int) (c_known_rows : Array Value) (i : Int) (k : Int) (H : AH) (Bd : Nat) (K : Value → AH → Nat → Prop) : V138 [.agg #[lst (c_s_symbols), lst (c_order), lst (c_a), lst (c_b), .func (.methodOf 0 "") #[] c_known_rows], .int .i64 (i), .int .i64 (k)] H Bd K = ((CmpOK (GComparer.mk (GSignature.mk c_s_symbols) c_order c_a c_b (Memo.mk c_known_rows)) ∧ 0 ≤ i ∧ i < (GComparer.mk (GSignature.mk c_s_symbols) c_order c_a c_b (Memo.mk c_known_rows)).a.length ∧ 0 ≤ k ∧ k < (GComparer.mk (GSignature.mk c_s_symbols) c_order c_a c_b (Memo.mk c_known_rows)).b.length) ∧ K (.bool (decide (subT (GComparer.mk (GSignature.mk c_s_symbols) c_order c_a c_b (Memo.mk c_known_rows)).s (GComparer.mk (GSignature.mk c_s_symbols) c_order c_a c_b (Memo.mk c_known_rows)).a i.toNat = subT (GComparer.mk (GSignature.mk c_s_symbols) c_order c_a c_b (Memo.mk c_known_rows)).s (GComparer.mk (GSignature.mk c_s_symbols) c_order c_a c_b (Memo.mk c_known_rows)).b k.toNat))) H Bd) := by
  refine propext ⟨fun h => ?_, fun h => ⟨_, _, _, rfl, h⟩⟩
  obtain ⟨c', i', k', e, h⟩ := h
  obtain ⟨⟨cssymbols'⟩, corder', ca', cb', ⟨cknown'⟩⟩ := c'
  skip
  skip
  simp only [enc_GComparer, enc_GSignature, enc_int, enc_str, enc_list, enc_bool, enc_byte, List.cons.injEq, Value.agg.injEq, toArr_inj, Value.int.injEq, Value.bool.injEq, Value.string.injEq, Value.slice.injEq, Value.func.injEq, Value.pointer.injEq, Option.some.injEq, Addr.mk.injEq, lst_inj, true_and, and_true] at e
  obtain ⟨⟨rfl, rfl, rfl, rfl, rfl⟩, rfl, rfl⟩ := e
  exact h
def W138 : Trans := fun args H Bd K => ∃ (pc vi vk : Value), args = [pc, vi, vk] ∧ Yld (cellsAt H 5 pc) fun cc => callW V138 [.agg cc.toArray, vi, vk] H Bd K
@[go_sem ↓] theorem W138_eq (pc vi vk : Value) (H : AH) (Bd : Nat) (K : Value → AH → Nat → Prop) : W138 [pc, vi, vk] H Bd K = (Yld (cellsAt H 5 pc) fun cc => callW V138 (idS [.agg cc.toArray, vi, vk]) H Bd K) := by
  refine propext ⟨fun h => ?_, fun h => ⟨_, _, _, rfl, h⟩⟩
  obtain ⟨pc', vi', vk', e, h⟩ := h
  simp only [List.cons.injEq, and_true] at e
  obtain ⟨rfl, rfl, rfl⟩ := e
  exact h
set_option maxHeartbeats 2000000 in
theorem W138_ok : OK 138 W138 := by
  rintro args H Bd K ⟨pc, vi, vk, rfl, cc, ec, h⟩
  obtain ⟨c, i, k, e, hpre, hK⟩ := h
  simp only [List.cons.injEq, and_true] at e
  obtain ⟨Ec, rfl, rfl⟩ := e
  obtain rfl := agg_inj Ec
  refine fn_pure pok (((Env.base _).add 136 _ W136_ok).add 56 _ W56_ok) [(1, [0,1,2,3,4,5,6,7,8,10,11,12,13,14,15,16,17,18,9,19,20,21], [⟨0, [], []⟩, ⟨1, [], []⟩, ⟨2, [], []⟩, ⟨3, [], []⟩, ⟨4, [], []⟩, ⟨5, [], []⟩, ⟨6, [], []⟩, ⟨7, [], []⟩, ⟨8, [], []⟩, ⟨10, [], []⟩, ⟨11, [], []⟩, ⟨12, [], []⟩, ⟨13, [], []⟩, ⟨14, [], []⟩, ⟨15, [], []⟩, ⟨16, [], []⟩, ⟨17, [], []⟩, ⟨18, [], []⟩, ⟨9, [], [17,13]⟩, ⟨19, [], []⟩, ⟨20, [], []⟩, ⟨21, [], []⟩], .nil)] _ hK Tryz.func138 rfl (rs := [.tmp 6]) rfl Tryz.ntmps138 (by simp) Tryz.call138 (by kernel_rfl) (fun ha hb => .bool _) (fun hb ha => ?_)
  have Pc := cellsAt_out ec (NB.vpok (ha pc (by simp)))
  simp only [enc_GComparer, enc_GSignature] at Pc
  obtain ⟨hc, i1, i2, k1, k2⟩ := hpre
  have ⟨h1, h2, h3, h4, h5, h6, h7, h8, h9⟩ := hc
  obtain ⟨i, rfl⟩ := Int.eq_ofNat_of_zero_le i1
  obtain ⟨k, rfl⟩ := Int.eq_ofNat_of_zero_le k1
  have hia : i < c.a.length := by omega
  have hkb : k < c.b.length := by omega
  have l1 := h7.len
  have l2 := h8.len
  have n1 := h7.nodes
  have n2 := h8.nodes
  have p1 := term_places h7
  have p2 := term_places h8
  have hpa := p1 i hia
  have hpb := p2 k hkb
  have q1 : sm (subT c.s c.a i) := by unfold subT; exact sm_take (sm_drop h3 _) _
  simp (maxSteps := 2000000) (disch := first | assumption | (refine asm_intro ?_; assumption) | exact Nat.le_add_right _ _ | exact Nat.le_refl _ | omega | (simp (disch := first | exact Nat.le_add_right _ _ | omega) only [Le_upd hb, Le_app hb, Le_rfl, free_T hb, free_upd]; done) | fail) only [go_sem, push_cast, and_pos, Le_updF, Le_upd hb, free_T hb, Pc.nil, Pc.fldL (m := 5) rfl, Pc.ldL (m := 5) rfl, Pc.ld0L (m := 5) rfl, Pc.cellsL (m := 5) rfl, Pc.cellsOL (m := 5) rfl, h1, h3, h4, h5, n1, n2, hpa, hpb, q1]
def V118 : Trans := fun args H Bd K => ∃ (c : GComparer) (i : Int) (k : Int), args = [.agg (enc (c)).toArray, .int .i64 (i), .int .i64 (k)] ∧ ((CmpOK c ∧ 0 ≤ i ∧ i < c.a.length ∧ 0 ≤ k ∧ k < c.b.length) ∧ K (.bool (gt c.s c.order c.a c.b i.toNat k.toNat)) H Bd)
@[go_sem ↓] theorem V118_eq (c_s_symbols : List GSymbol) (c_order : List Int) (c_a : List Int) (c_b : List Int) (c_known_rows : Array Value) (i : Int) (k : Int) (H : AH) (Bd : Nat) (K : Value → AH → Nat → Prop) : V118 [.agg #[lst (c_s_symbols), lst (c_order), lst (c_a), lst (c_b), .func (.methodOf 0 "") #[] c_known_rows], .int .i64 (i), .int .i64 (k)] H Bd K = ((CmpOK (GComparer.mk (GSignature.mk c_s_symbols) c_order c_a c_b (Memo.mk c_known_rows)) ∧ 0 ≤ i ∧ i < (GComparer.mk (GSignature.mk c_s_symbols) c_order c_a c_b (Memo.mk c_known_rows)).a.length ∧ 0 ≤ k ∧ k < (GComparer.mk (GSignature.mk c_s_symbols) c_order c_a c_b (Memo.mk c_known_rows)).b.length) ∧ K (.bool (gt (GComparer.mk (GSignature.mk c_s_symbols) c_order c_a c_b (Memo.mk c_known_rows)).s (GComparer.mk (GSignature.mk c_s_symbols) c_order c_a c_b (Memo.mk c_known_rows)).order (GComparer.mk (GSignature.mk c_s_symbols) c_order c_a c_b (Memo.mk c_known_rows)).a (GComparer.mk (GSignature.mk c_s_symbols) c_order c_a c_b (Memo.mk c_known_rows)).b i.toNat k.toNat)) H Bd) := by
  refine propext ⟨fun h => ?_, fun h => ⟨_, _, _, rfl, h⟩⟩
  obtain ⟨c', i', k', e, h⟩ := h
  obtain ⟨⟨cssymbols'⟩, corder', ca', cb', ⟨cknown'⟩⟩ := c'
  skip
  skip
  simp only [enc_GComparer, enc_GSignature, enc_int, enc_str, enc_list, enc_bool, enc_byte, List.cons.injEq, Value.agg.injEq, toArr_inj, Value.int.injEq, Value.bool.injEq, Value.string.injEq, Value.slice.injEq, Value.func.injEq, Value.pointer.injEq, Option.some.injEq, Addr.mk.injEq, lst_inj, true_and, and_true] at e
  obtain ⟨⟨rfl, rfl, rfl, rfl, rfl⟩, rfl, rfl⟩ := e
  exact h
def W118 : Trans := fun args H Bd K => ∃ (pc vi vk : Value), args = [pc, vi, vk] ∧ Yld (cellsAt H 5 pc) fun cc => callW V118 [.agg cc.toArray, vi, vk] H Bd K
@[go_sem ↓] theorem W118_eq (pc vi vk : Value) (H : AH) (Bd : Nat) (K : Value → AH → Nat → Prop) : W118 [pc, vi, vk] H Bd K = (Yld (cellsAt H 5 pc) fun cc => callW V118 (idS [.agg cc.toArray, vi, vk]) H Bd K) := by
  refine propext ⟨fun h => ?_, fun h => ⟨_, _, _, rfl, h⟩⟩
  obtain ⟨pc', vi', vk', e, h⟩ := h
  simp only [List.cons.injEq, and_true] at e
  obtain ⟨rfl, rfl, rfl⟩ := e
  exact h
def Q118 (N : Nat) : Trans := fun args H Bd K => ∃ (c : GComparer) (i : Int) (k : Int), args = [.agg (enc (c)).toArray, .int .i64 (i), .int .i64 (k)] ∧ (((CmpOK c ∧ 0 ≤ i ∧ i < c.a.length ∧ 0 ≤ k ∧ k < c.b.length) ∧ (c.a.length - i.toNat + (c.b.length - k.toNat)) < N) ∧ K (.bool (gt c.s c.order c.a c.b i.toNat k.toNat)) H Bd)
@[go_sem ↓] theorem Q118_eq (N : Nat) (c_s_symbols : List GSymbol) (c_order : List Int) (c_a : List Int) (c_b : List Int) (c_known_rows : Array Value) (i : Int) (k : Int) (H : AH) (Bd : Nat) (K : Value → AH → Nat → Prop) : Q118 N [.agg #[lst (c_s_symbols), lst (c_order), lst (c_a), lst (c_b), .func (.methodOf 0 "") #[] c_known_rows], .int .i64 (i), .int .i64 (k)] H Bd K = (((CmpOK (GComparer.mk (GSignature.mk c_s_symbols) c_order c_a c_b (Memo.mk c_known_rows)) ∧ 0 ≤ i ∧ i < (GComparer.mk (GSignature.mk c_s_symbols) c_order c_a c_b (Memo.mk c_known_rows)).a.length ∧ 0 ≤ k ∧ k < (GComparer.mk (GSignature.mk c_s_symbols) c_order c_a c_b (Memo.mk c_known_rows)).b.length) ∧ ((GComparer.mk (GSignature.mk c_s_symbols) c_order c_a c_b (Memo.mk c_known_rows)).a.length - i.toNat + ((GComparer.mk (GSignature.mk c_s_symbols) c_order c_a c_b (Memo.mk c_known_rows)).b.length - k.toNat)) < N) ∧ K (.bool (gt (GComparer.mk (GSignature.mk c_s_symbols) c_order c_a c_b (Memo.mk c_known_rows)).s (GComparer.mk (GSignature.mk c_s_symbols) c_order c_a c_b (Memo.mk c_known_rows)).order (GComparer.mk (GSignature.mk c_s_symbols) c_order c_a c_b (Memo.mk c_known_rows)).a (GComparer.mk (GSignature.mk c_s_symbols) c_order c_a c_b (Memo.mk c_known_rows)).b i.toNat k.toNat)) H Bd) := by
  refine propext ⟨fun h => ?_, fun h => ⟨_, _, _, rfl, h⟩⟩
  obtain ⟨c', i', k', e, h⟩ := h
  obtain ⟨⟨cssymbols'⟩, corder', ca', cb', ⟨cknown'⟩⟩ := c'
  skip
  skip
  simp only [enc_GComparer, enc_GSignature, enc_int, enc_str, enc_list, enc_bool, enc_byte, List.cons.injEq, Value.agg.injEq, toArr_inj, Value.int.injEq, Value.bool.injEq, Value.string.injEq, Value.slice.injEq, Value.func.injEq, Value.pointer.injEq, Option.some.injEq, Addr.mk.injEq, lst_inj, true_and, and_true] at e
  obtain ⟨⟨rfl, rfl, rfl, rfl, rfl⟩, rfl, rfl⟩ := e
  exact h
def R118 (N : Nat) : Trans := fun args H Bd K => ∃ (pc vi vk : Value), args = [pc, vi, vk] ∧ Yld (cellsAt H 5 pc) fun cc => callW (Q118 N) [.agg cc.toArray, vi, vk] H Bd K
@[go_sem ↓] theorem R118_eq (N : Nat) (pc vi vk : Value) (H : AH) (Bd : Nat) (K : Value → AH → Nat → Prop) : R118 N [pc, vi, vk] H Bd K = (Yld (cellsAt H 5 pc) fun cc => callW (Q118 N) (idS [.agg cc.toArray, vi, vk]) H Bd K) := by
  refine propext ⟨fun h => ?_, fun h => ⟨_, _, _, rfl, h⟩⟩
  obtain ⟨pc', vi', vk', e, h⟩ := h
  simp only [List.cons.injEq, and_true] at e
  obtain ⟨rfl, rfl, rfl⟩ := e
  exact h
def Q127 (N : Nat) : Trans := fun args H Bd K => ∃ (c : GComparer) (i : Int) (k : Int), args = [.agg (enc (c)).toArray, .int .i64 (i), .int .i64 (k)] ∧ (((CmpOK c ∧ 0 ≤ i ∧ i < c.a.length ∧ 0 ≤ k ∧ k < c.b.length) ∧ (c.a.length - i.toNat + (c.b.length - k.toNat)) < N) ∧ K (.bool (gt c.s c.order c.a c.b i.toNat k.toNat)) H Bd)
@[go_sem ↓] theorem Q127_eq (N : Nat) (c_s_symbols : List GSymbol) (c_order : List Int) (c_a : List Int) (c_b : List Int) (c_known_rows : Array Value) (i : Int) (k : Int) (H : AH) (Bd : Nat) (K : Value → AH → Nat → Prop) : Q127 N [.agg #[lst (c_s_symbols), lst (c_order), lst (c_a), lst (c_b), .func (.methodOf 0 "") #[] c_known_rows], .int .i64 (i), .int .i64 (k)] H Bd K = (((CmpOK (GComparer.mk (GSignature.mk c_s_symbols) c_order c_a c_b (Memo.mk c_known_rows)) ∧ 0 ≤ i ∧ i < (GComparer.mk (GSignature.mk c_s_symbols) c_order c_a c_b (Memo.mk c_known_rows)).a.length ∧ 0 ≤ k ∧ k < (GComparer.mk (GSignature.mk c_s_symbols) c_order c_a c_b (Memo.mk c_known_rows)).b.length) ∧ ((GComparer.mk (GSignature.mk c_s_symbols) c_order c_a c_b (Memo.mk c_known_rows)).a.length - i.toNat + ((GComparer.mk (GSignature.mk c_s_symbols) c_order c_a c_b (Memo.mk c_known_rows)).b.length - k.toNat)) < N) ∧ K (.bool (gt (GComparer.mk (GSignature.mk c_s_symbols) c_order c_a c_b (Memo.mk c_known_rows)).s (GComparer.mk (GSignature.mk c_s_symbols) c_order c_a c_b (Memo.mk c_known_rows)).order (GComparer.mk (GSignature.mk c_s_symbols) c_order c_a c_b (Memo.mk c_known_rows)).a (GComparer.mk (GSignature.mk c_s_symbols) c_order c_a c_b (Memo.mk c_known_rows)).b i.toNat k.toNat)) H Bd) := by
  refine propext ⟨fun h => ?_, fun h => ⟨_, _, _, rfl, h⟩⟩
  obtain ⟨c', i', k', e, h⟩ := h
  obtain ⟨⟨cssymbols'⟩, corder', ca', cb', ⟨cknown'⟩⟩ := c'
  skip
  skip
  simp only [enc_GComparer, enc_GSignature, enc_int, enc_str, enc_list, enc_bool, enc_byte, List.cons.injEq, Value.agg.injEq, toArr_inj, Value.int.injEq, Value.bool.injEq, Value.string.injEq, Value.slice.injEq, Value.func.injEq, Value.pointer.injEq, Option.some.injEq, Addr.mk.injEq, lst_inj, true_and, and_true] at e
  obtain ⟨⟨rfl, rfl, rfl, rfl, rfl⟩, rfl, rfl⟩ := e
  exact h
def R127 (N : Nat) : Trans := fun args H Bd K => ∃ (pc vi vk : Value), args = [pc, vi, vk] ∧ Yld (cellsAt H 5 pc) fun cc => callW (Q127 N) [.agg cc.toArray, vi, vk] H Bd K
@[go_sem ↓] theorem R127_eq (N : Nat) (pc vi vk : Value) (H : AH) (Bd : Nat) (K : Value → AH → Nat → Prop) : R127 N [pc, vi, vk] H Bd K = (Yld (cellsAt H 5 pc) fun cc => callW (Q127 N) (idS [.agg cc.toArray, vi, vk]) H Bd K) := by
  refine propext ⟨fun h => ?_, fun h => ⟨_, _, _, rfl, h⟩⟩
  obtain ⟨pc', vi', vk', e, h⟩ := h
  simp only [List.cons.injEq, and_true] at e
  obtain ⟨rfl, rfl, rfl⟩ := e
  exact h
set_option maxHeartbeats 2000000 in
theorem R127_step (N : Nat) (ih : OK 118 (R118 N)) : OK 127 (R127 (N + 1)) := by
  rintro args H Bd K ⟨pc, vi, vk, rfl, cc, ec, h⟩
  obtain ⟨c, i, k, e, hpre, hK⟩ := h
  simp only [List.cons.injEq, and_true] at e
  obtain ⟨Ec, rfl, rfl⟩ := e
  obtain rfl := agg_inj Ec
  refine fn_pure pok (((((((Env.base _).add 136 _ W136_ok).add 84 _ W84_ok).add 137 _ W137_ok).add 138 _ W138_ok).add 113 _ W113_ok).add 118 _ ih) [(1, [0,1,2,3,4,5,6,7,8,9,10,11,12,13,14,15], [⟨0, [], []⟩, ⟨1, [], []⟩, ⟨2, [], []⟩, ⟨3, [], []⟩, ⟨4, [], []⟩, ⟨5, [], []⟩, ⟨6, [], []⟩, ⟨7, [], []⟩, ⟨8, [], []⟩, ⟨9, [], []⟩, ⟨10, [], []⟩, ⟨11, [], []⟩, ⟨12, [], []⟩, ⟨13, [], []⟩, ⟨14, [], []⟩, ⟨15, [], []⟩], .nil), (3, [0,1,2,3,4,5,6,7,8,9,10,11,13,12,14,15,16], [⟨0, [], []⟩, ⟨1, [], []⟩, ⟨2, [], []⟩, ⟨3, [], []⟩, ⟨4, [], []⟩, ⟨5, [], []⟩, ⟨6, [], []⟩, ⟨7, [], []⟩, ⟨8, [], []⟩, ⟨9, [], []⟩, ⟨10, [], []⟩, ⟨11, [], []⟩, ⟨13, [], []⟩, ⟨12, [], []⟩, ⟨14, [], []⟩, ⟨15, [], []⟩, ⟨16, [], []⟩], .nil), (6, [0,1,2,3,4,5,6,7,8,10,11,12,13,14,15,16,17,18,9,19,20,21], [⟨0, [], []⟩, ⟨1, [], []⟩, ⟨2, [], []⟩, ⟨3, [], []⟩, ⟨4, [], []⟩, ⟨5, [], []⟩, ⟨6, [], []⟩, ⟨7, [], []⟩, ⟨8, [], []⟩, ⟨10, [], []⟩, ⟨11, [], []⟩, ⟨12, [], []⟩, ⟨13, [], []⟩, ⟨14, [], []⟩, ⟨15, [], []⟩, ⟨16, [], []⟩, ⟨17, [], []⟩, ⟨18, [], []⟩, ⟨9, [], [17,13]⟩, ⟨19, [], []⟩, ⟨20, [], []⟩, ⟨21, [], []⟩], .nil), (10, [], [], (.k 5 (.grp false 82 86 4 [83, 84, 85, 86] 87 none (.k 4 .nil) .nil))), (13, [0,1,2,3,4,6,7,8,9,10,5,11,12,13], [⟨0, [], []⟩, ⟨1, [], []⟩, ⟨2, [], []⟩, ⟨3, [], []⟩, ⟨4, [], []⟩, ⟨6, [], []⟩, ⟨7, [], []⟩, ⟨8, [], []⟩, ⟨9, [], []⟩, ⟨10, [], []⟩, ⟨5, [], [9]⟩, ⟨11, [], []⟩, ⟨12, [], []⟩, ⟨13, [], []⟩], .nil)] _ hK Tryz.func127 rfl (rs := [.tmp 6]) rfl Tryz.ntmps127 (by simp) Tryz.call127 (by kernel_rfl) (fun ha hb => .bool _) (fun hb ha => ?_)
  have Pc := cellsAt_out ec (NB.vpok (ha pc (by simp)))
  simp only [enc_GComparer, enc_GSignature] at Pc
  obtain ⟨⟨hc, i1, i2, k1, k2⟩, hrec⟩ := hpre
  have ⟨h1, h2, h3, h4, h5, h6, h7, h8, h9⟩ := hc
  obtain ⟨i, rfl⟩ := Int.eq_ofNat_of_zero_le i1
  obtain ⟨k, rfl⟩ := Int.eq_ofNat_of_zero_le k1
  simp only [Int.toNat_natCast] at hrec
  have hia : i < c.a.length := by omega
  have hkb : k < c.b.length := by omega
  have l1 := h7.len
  have l2 := h8.len
  have n1 := h7.nodes
  have n2 := h8.nodes
  have p1 := term_places h7
  have p2 := term_places h8
  have hpa := p1 i hia
  have hpb := p2 k hkb
  have ea : c.a[i]? = some c.a[i] := List.getElem?_eq_getElem hia
  have eb : c.b[k]? = some c.b[k] := List.getElem?_eq_getElem hkb
  have hsub : sm (subT c.s c.a i) := by unfold subT; exact sm_take (sm_drop h3 _) _
  by_cases hy : c.b[k] < 0
  · have hv := gt_var (order := c.order) p1 p2 hia hkb hy
    simp (maxSteps := 2000000) (disch := first | assumption | (refine asm_intro ?_; assumption) | exact Nat.le_add_right _ _ | exact Nat.le_refl _ | omega | (simp (disch := first | exact Nat.le_add_right _ _ | omega) only [Le_upd hb, Le_app hb, Le_rfl, free_T hb, free_upd]; done) | fail) only [go_sem, push_cast, and_pos, Le_updF, Le_upd hb, free_T hb, Pc.nil, Pc.fldL (m := 5) rfl, Pc.ldL (m := 5) rfl, Pc.ld0L (m := 5) rfl, Pc.cellsL (m := 5) rfl, Pc.cellsOL (m := 5) rfl, ea, eb, hy, h1, h3, h5, n1, hpa, hsub]
    rw [hv]
    exact ⟨fun h => by simp [h], fun h => by simp [h]⟩
  by_cases hx : c.a[i] < 0
  · have hv := gt_low (order := c.order) p1 p2 hia hkb hy hx
    simp (maxSteps := 2000000) (disch := first | assumption | (refine asm_intro ?_; assumption) | exact Nat.le_add_right _ _ | exact Nat.le_refl _ | omega | (simp (disch := first | exact Nat.le_add_right _ _ | omega) only [Le_upd hb, Le_app hb, Le_rfl, free_T hb, free_upd]; done) | fail) only [go_sem, push_cast, and_pos, Le_updF, Le_upd hb, free_T hb, Pc.nil, Pc.fldL (m := 5) rfl, Pc.ldL (m := 5) rfl, Pc.ld0L (m := 5) rfl, Pc.cellsL (m := 5) rfl, Pc.cellsOL (m := 5) rfl, ea, eb, hy, hx, hv]
  · have ga : c.a.getD i 0 = c.a[i] := getD_at hia
    have gb : c.b.getD k 0 = c.b[k] := getD_at hkb
    have ha1 : argsP c.s c.a i (arN c.s c.a[i]) = args c.s c.a i := by unfold args; rw [ga]
    have hb1 : argsP c.s c.b k (arN c.s c.b[k]) = args c.s c.b k := by unfold args; rw [gb]
    have hrest := gt_rest (order := c.order) p1 p2 hia hkb hy hx
    have hs := sig_ok h5
    have ho := ord_ok h6
    have hal : (args c.s c.a i).length ≤ 2 := by rw [args_len]; exact arN_le hs _
    have hbl : (args c.s c.b k).length ≤ 2 := by rw [args_len]; exact arN_le hs _
    have hna := n1 _ (List.getElem_mem hia)
    have hnb := n2 _ (List.getElem_mem hkb)
    have hxo : c.a[i] ∈ c.order := ord_all ho (by omega) hna.2
    have hyo : c.b[k] ∈ c.order := ord_all ho (by omega) hnb.2
    have hrk := rk_inj hxo hyo
    have hol := ho.len
    have hsl := hs.len
    obtain ⟨ri, hri, hr1, _⟩ := rk_mem hxo
    obtain ⟨rj, hrj, hr2, _⟩ := rk_mem hyo
    have hf1 : fidx (fun x => decide (c.a[i] = x)) c.order = rk c.order c.a[i] := rfl
    have hf2 : fidx (fun x => decide (c.b[k] = x)) c.order = rk c.order c.b[k] := rfl
    simp (maxSteps := 2000000) (disch := first | assumption | (refine asm_intro ?_; assumption) | exact Nat.le_add_right _ _ | exact Nat.le_refl _ | omega | (simp (disch := first | exact Nat.le_add_right _ _ | omega) only [Le_upd hb, Le_app hb, Le_rfl, free_T hb, free_upd]; done) | fail) only [go_sem, push_cast, and_pos, Le_updF, Le_upd hb, free_T hb, Pc.nil, Pc.fldL (m := 5) rfl, Pc.ldL (m := 5) rfl, Pc.ld0L (m := 5) rfl, Pc.cellsL (m := 5) rfl, Pc.cellsOL (m := 5) rfl, ea, eb, hy, hx, h1, h3, h4, h5, n1, n2, hpa, hpb, ga, gb, ha1, hb1]
    refine tr_for (fun x => ∀ m, m < x → ∀ p, (args c.s c.a i)[m]? = some p → gt c.s c.order c.a c.b p.toNat k = false ∧ subT c.s c.a p.toNat ≠ subT c.s c.b k) ((args c.s c.a i).length) (fun x => [(0, pc), (1, .int .i64 i), (2, .int .i64 k), (7, .int .i64 c.a[i]), (8, .int .i64 c.b[k]), (9, lst (args c.s c.a i)), (10, lst (args c.s c.b k)), (72, lst (args c.s c.a i)), (73, .int .i64 (args c.s c.a i).length), (74, .int .i64 x)]) (by simp) (by simp only [go_sem, push_cast, and_pos, Le_updF]) ?_
    intro x Bx hIx hix hBx
    refine vq_conv pok (E := (((((((Env.base _).add 136 _ W136_ok).add 84 _ W84_ok).add 137 _ W137_ok).add 138 _ W138_ok).add 113 _ W113_ok).add 118 _ ih)) (PL := [(1, [0,1,2,3,4,5,6,7,8,9,10,11,12,13,14,15], [⟨0, [], []⟩, ⟨1, [], []⟩, ⟨2, [], []⟩, ⟨3, [], []⟩, ⟨4, [], []⟩, ⟨5, [], []⟩, ⟨6, [], []⟩, ⟨7, [], []⟩, ⟨8, [], []⟩, ⟨9, [], []⟩, ⟨10, [], []⟩, ⟨11, [], []⟩, ⟨12, [], []⟩, ⟨13, [], []⟩, ⟨14, [], []⟩, ⟨15, [], []⟩], .nil), (3, [0,1,2,3,4,5,6,7,8,9,10,11,13,12,14,15,16], [⟨0, [], []⟩, ⟨1, [], []⟩, ⟨2, [], []⟩, ⟨3, [], []⟩, ⟨4, [], []⟩, ⟨5, [], []⟩, ⟨6, [], []⟩, ⟨7, [], []⟩, ⟨8, [], []⟩, ⟨9, [], []⟩, ⟨10, [], []⟩, ⟨11, [], []⟩, ⟨13, [], []⟩, ⟨12, [], []⟩, ⟨14, [], []⟩, ⟨15, [], []⟩, ⟨16, [], []⟩], .nil), (6, [0,1,2,3,4,5,6,7,8,10,11,12,13,14,15,16,17,18,9,19,20,21], [⟨0, [], []⟩, ⟨1, [], []⟩, ⟨2, [], []⟩, ⟨3, [], []⟩, ⟨4, [], []⟩, ⟨5, [], []⟩, ⟨6, [], []⟩, ⟨7, [], []⟩, ⟨8, [], []⟩, ⟨10, [], []⟩, ⟨11, [], []⟩, ⟨12, [], []⟩, ⟨13, [], []⟩, ⟨14, [], []⟩, ⟨15, [], []⟩, ⟨16, [], []⟩, ⟨17, [], []⟩, ⟨18, [], []⟩, ⟨9, [], [17,13]⟩, ⟨19, [], []⟩, ⟨20, [], []⟩, ⟨21, [], []⟩], .nil), (10, [], [], (.k 5 (.grp false 82 86 4 [83, 84, 85, 86] 87 none (.k 4 .nil) .nil))), (13, [0,1,2,3,4,6,7,8,9,10,5,11,12,13], [⟨0, [], []⟩, ⟨1, [], []⟩, ⟨2, [], []⟩, ⟨3, [], []⟩, ⟨4, [], []⟩, ⟨6, [], []⟩, ⟨7, [], []⟩, ⟨8, [], []⟩, ⟨9, [], []⟩, ⟨10, [], []⟩, ⟨5, [], [9]⟩, ⟨11, [], []⟩, ⟨12, [], []⟩, ⟨13, [], []⟩], .nil)]) (by kernel_rfl) ?_
    rcases Nat.lt_or_ge x ((args c.s c.a i).length) with hltx | hgex
    · obtain ⟨p, e1, g1, g2⟩ := args_get p1 hia hltx
      simp (maxSteps := 2000000) (disch := first | assumption | (refine asm_intro ?_; assumption) | exact Nat.le_add_right _ _ | exact Nat.le_refl _ | omega | (simp (disch := first | exact Nat.le_add_right _ _ | omega) only [Le_upd hb, Le_app hb, Le_rfl, free_T hb, free_upd]; done) | fail) only [go_sem, push_cast, and_pos, Le_updF, Le_upd hb, free_T hb, Pc.nil, Pc.fldL (m := 5) rfl, Pc.ldL (m := 5) rfl, Pc.ld0L (m := 5) rfl, Pc.cellsL (m := 5) rfl, Pc.cellsOL (m := 5) rfl, e1, hc]
      refine ⟨fun h => ?_, fun a1 a2 m hm q hq => ?_⟩
      · rw [gt_arg p1 p2 hia hkb hy hx (p := (p : Int)) (List.mem_of_getElem? e1) (by rw [Int.toNat_natCast]; exact h.symm)]
      · by_cases e : m = x
        · subst e; rw [e1] at hq; cases hq; rw [Int.toNat_natCast]; exact ⟨by simpa using a2, a1⟩
        · exact hIx m (by omega) q hq
    · have hr := hrest fun p hp => by
        obtain ⟨m, hm, rfl⟩ := List.getElem_of_mem hp
        exact hIx m (by omega) _ (List.getElem?_eq_getElem hm)
      simp (maxSteps := 2000000) (disch := first | assumption | (refine asm_intro ?_; assumption) | exact Nat.le_add_right _ _ | exact Nat.le_refl _ | omega | (simp (disch := first | exact Nat.le_add_right _ _ | omega) only [Le_upd hb, Le_app hb, Le_rfl, free_T hb, free_upd]; done) | fail) only [go_sem, push_cast, and_pos, Le_updF, Le_upd hb, free_T hb, Pc.nil, Pc.fldL (m := 5) rfl, Pc.ldL (m := 5) rfl, Pc.ld0L (m := 5) rfl, Pc.cellsL (m := 5) rfl, Pc.cellsOL (m := 5) rfl]
      refine vq_conv pok (E := (((((((Env.base _).add 136 _ W136_ok).add 84 _ W84_ok).add 137 _ W137_ok).add 138 _ W138_ok).add 113 _ W113_ok).add 118 _ ih)) (PL := [(1, [0,1,2,3,4,5,6,7,8,9,10,11,12,13,14,15], [⟨0, [], []⟩, ⟨1, [], []⟩, ⟨2, [], []⟩, ⟨3, [], []⟩, ⟨4, [], []⟩, ⟨5, [], []⟩, ⟨6, [], []⟩, ⟨7, [], []⟩, ⟨8, [], []⟩, ⟨9, [], []⟩, ⟨10, [], []⟩, ⟨11, [], []⟩, ⟨12, [], []⟩, ⟨13, [], []⟩, ⟨14, [], []⟩, ⟨15, [], []⟩], .nil), (3, [0,1,2,3,4,5,6,7,8,9,10,11,13,12,14,15,16], [⟨0, [], []⟩, ⟨1, [], []⟩, ⟨2, [], []⟩, ⟨3, [], []⟩, ⟨4, [], []⟩, ⟨5, [], []⟩, ⟨6, [], []⟩, ⟨7, [], []⟩, ⟨8, [], []⟩, ⟨9, [], []⟩, ⟨10, [], []⟩, ⟨11, [], []⟩, ⟨13, [], []⟩, ⟨12, [], []⟩, ⟨14, [], []⟩, ⟨15, [], []⟩, ⟨16, [], []⟩], .nil), (6, [0,1,2,3,4,5,6,7,8,10,11,12,13,14,15,16,17,18,9,19,20,21], [⟨0, [], []⟩, ⟨1, [], []⟩, ⟨2, [], []⟩, ⟨3, [], []⟩, ⟨4, [], []⟩, ⟨5, [], []⟩, ⟨6, [], []⟩, ⟨7, [], []⟩, ⟨8, [], []⟩, ⟨10, [], []⟩, ⟨11, [], []⟩, ⟨12, [], []⟩, ⟨13, [], []⟩, ⟨14, [], []⟩, ⟨15, [], []⟩, ⟨16, [], []⟩, ⟨17, [], []⟩, ⟨18, [], []⟩, ⟨9, [], [17,13]⟩, ⟨19, [], []⟩, ⟨20, [], []⟩, ⟨21, [], []⟩], .nil), (10, [], [], (.k 5 (.grp false 82 86 4 [83, 84, 85, 86] 87 none (.k 4 .nil) .nil))), (13, [0,1,2,3,4,6,7,8,9,10,5,11,12,13], [⟨0, [], []⟩, ⟨1, [], []⟩, ⟨2, [], []⟩, ⟨3, [], []⟩, ⟨4, [], []⟩, ⟨6, [], []⟩, ⟨7, [], []⟩, ⟨8, [], []⟩, ⟨9, [], []⟩, ⟨10, [], []⟩, ⟨5, [], [9]⟩, ⟨11, [], []⟩, ⟨12, [], []⟩, ⟨13, [], []⟩], .nil)]) (by kernel_rfl) ?_
      simp (maxSteps := 2000000) (disch := first | assumption | (refine asm_intro ?_; assumption) | exact Nat.le_add_right _ _ | exact Nat.le_refl _ | omega | (simp (disch := first | exact Nat.le_add_right _ _ | omega) only [Le_upd hb, Le_app hb, Le_rfl, free_T hb, free_upd]; done) | fail) only [go_sem, push_cast, and_pos, Le_updF, Le_upd hb, free_T hb, Pc.nil, Pc.fldL (m := 5) rfl, Pc.ldL (m := 5) rfl, Pc.ld0L (m := 5) rfl, Pc.cellsL (m := 5) rfl, Pc.cellsOL (m := 5) rfl, h2, hf1, hf2]
      refine ⟨fun h => by rw [hr, if_pos (by omega)], fun hge => ?_⟩
      rw [if_neg (by omega)] at hr
      refine tr_for (fun y => ∀ m, m < y → ∀ q, (args c.s c.b k)[m]? = some q → gt c.s c.order c.a c.b i q.toNat = true) ((args c.s c.b k).length) (fun y => [(0, pc), (1, .int .i64 i), (2, .int .i64 k), (9, lst (args c.s c.a i)), (10, lst (args c.s c.b k)), (13, .int .i64 (rk c.order c.a[i] - rk c.order c.b[k])), (104, lst (args c.s c.b k)), (105, .int .i64 (args c.s c.b k).length), (106, .int .i64 y)]) (by simp) (by simp only [go_sem, push_cast, and_pos, Le_updF]) ?_
      intro y By hIy hiy hBy
      refine vq_conv pok (E := (((((((Env.base _).add 136 _ W136_ok).add 84 _ W84_ok).add 137 _ W137_ok).add 138 _ W138_ok).add 113 _ W113_ok).add 118 _ ih)) (PL := [(1, [0,1,2,3,4,5,6,7,8,9,10,11,12,13,14,15], [⟨0, [], []⟩, ⟨1, [], []⟩, ⟨2, [], []⟩, ⟨3, [], []⟩, ⟨4, [], []⟩, ⟨5, [], []⟩, ⟨6, [], []⟩, ⟨7, [], []⟩, ⟨8, [], []⟩, ⟨9, [], []⟩, ⟨10, [], []⟩, ⟨11, [], []⟩, ⟨12, [], []⟩, ⟨13, [], []⟩, ⟨14, [], []⟩, ⟨15, [], []⟩], .nil), (3, [0,1,2,3,4,5,6,7,8,9,10,11,13,12,14,15,16], [⟨0, [], []⟩, ⟨1, [], []⟩, ⟨2, [], []⟩, ⟨3, [], []⟩, ⟨4, [], []⟩, ⟨5, [], []⟩, ⟨6, [], []⟩, ⟨7, [], []⟩, ⟨8, [], []⟩, ⟨9, [], []⟩, ⟨10, [], []⟩, ⟨11, [], []⟩, ⟨13, [], []⟩, ⟨12, [], []⟩, ⟨14, [], []⟩, ⟨15, [], []⟩, ⟨16, [], []⟩], .nil), (6, [0,1,2,3,4,5,6,7,8,10,11,12,13,14,15,16,17,18,9,19,20,21], [⟨0, [], []⟩, ⟨1, [], []⟩, ⟨2, [], []⟩, ⟨3, [], []⟩, ⟨4, [], []⟩, ⟨5, [], []⟩, ⟨6, [], []⟩, ⟨7, [], []⟩, ⟨8, [], []⟩, ⟨10, [], []⟩, ⟨11, [], []⟩, ⟨12, [], []⟩, ⟨13, [], []⟩, ⟨14, [], []⟩, ⟨15, [], []⟩, ⟨16, [], []⟩, ⟨17, [], []⟩, ⟨18, [], []⟩, ⟨9, [], [17,13]⟩, ⟨19, [], []⟩, ⟨20, [], []⟩, ⟨21, [], []⟩], .nil), (10, [], [], (.k 5 (.grp false 82 86 4 [83, 84, 85, 86] 87 none (.k 4 .nil) .nil))), (13, [0,1,2,3,4,6,7,8,9,10,5,11,12,13], [⟨0, [], []⟩, ⟨1, [], []⟩, ⟨2, [], []⟩, ⟨3, [], []⟩, ⟨4, [], []⟩, ⟨6, [], []⟩, ⟨7, [], []⟩, ⟨8, [], []⟩, ⟨9, [], []⟩, ⟨10, [], []⟩, ⟨5, [], [9]⟩, ⟨11, [], []⟩, ⟨12, [], []⟩, ⟨13, [], []⟩], .nil)]) (by kernel_rfl) ?_
      rcases Nat.lt_or_ge y ((args c.s c.b k).length) with hlty | hgey
      · obtain ⟨q, e1, g1, g2⟩ := args_get p2 hkb hlty
        simp (maxSteps := 2000000) (disch := first | assumption | (refine asm_intro ?_; assumption) | exact Nat.le_add_right _ _ | exact Nat.le_refl _ | omega | (simp (disch := first | exact Nat.le_add_right _ _ | omega) only [Le_upd hb, Le_app hb, Le_rfl, free_T hb, free_upd]; done) | fail) only [go_sem, push_cast, and_pos, Le_updF, Le_upd hb, free_T hb, Pc.nil, Pc.fldL (m := 5) rfl, Pc.ldL (m := 5) rfl, Pc.ld0L (m := 5) rfl, Pc.cellsL (m := 5) rfl, Pc.cellsOL (m := 5) rfl, e1, hc]
        refine ⟨fun h m hm q' hq => ?_, fun h => ?_⟩
        · by_cases e : m = y
          · subst e; rw [e1] at hq; cases hq; simpa using h
          · exact hIy m (by omega) q' hq
        · rw [hr, if_pos (List.any_eq_true.2 ⟨_, List.mem_of_getElem? e1, by simpa using h⟩)]
      · have hany : ¬ ((args c.s c.b k).any fun q => !gt c.s c.order c.a c.b i q.toNat) = true := fun hcc => by
          obtain ⟨q, hq, h⟩ := List.any_eq_true.1 hcc
          obtain ⟨m, hm, rfl⟩ := List.getElem_of_mem hq
          rw [hIy m (by omega) _ (List.getElem?_eq_getElem hm)] at h
          cases h
        rw [if_neg hany] at hr
        simp (maxSteps := 2000000) (disch := first | assumption | (refine asm_intro ?_; assumption) | exact Nat.le_add_right _ _ | exact Nat.le_refl _ | omega | (simp (disch := first | exact Nat.le_add_right _ _ | omega) only [Le_upd hb, Le_app hb, Le_rfl, free_T hb, free_upd]; done) | fail) only [go_sem, push_cast, and_pos, Le_updF, Le_upd hb, free_T hb, Pc.nil, Pc.fldL (m := 5) rfl, Pc.ldL (m := 5) rfl, Pc.ld0L (m := 5) rfl, Pc.cellsL (m := 5) rfl, Pc.cellsOL (m := 5) rfl]
        refine vq_conv pok (E := (((((((Env.base _).add 136 _ W136_ok).add 84 _ W84_ok).add 137 _ W137_ok).add 138 _ W138_ok).add 113 _ W113_ok).add 118 _ ih)) (PL := [(1, [0,1,2,3,4,5,6,7,8,9,10,11,12,13,14,15], [⟨0, [], []⟩, ⟨1, [], []⟩, ⟨2, [], []⟩, ⟨3, [], []⟩, ⟨4, [], []⟩, ⟨5, [], []⟩, ⟨6, [], []⟩, ⟨7, [], []⟩, ⟨8, [], []⟩, ⟨9, [], []⟩, ⟨10, [], []⟩, ⟨11, [], []⟩, ⟨12, [], []⟩, ⟨13, [], []⟩, ⟨14, [], []⟩, ⟨15, [], []⟩], .nil), (3, [0,1,2,3,4,5,6,7,8,9,10,11,13,12,14,15,16], [⟨0, [], []⟩, ⟨1, [], []⟩, ⟨2, [], []⟩, ⟨3, [], []⟩, ⟨4, [], []⟩, ⟨5, [], []⟩, ⟨6, [], []⟩, ⟨7, [], []⟩, ⟨8, [], []⟩, ⟨9, [], []⟩, ⟨10, [], []⟩, ⟨11, [], []⟩, ⟨13, [], []⟩, ⟨12, [], []⟩, ⟨14, [], []⟩, ⟨15, [], []⟩, ⟨16, [], []⟩], .nil), (6, [0,1,2,3,4,5,6,7,8,10,11,12,13,14,15,16,17,18,9,19,20,21], [⟨0, [], []⟩, ⟨1, [], []⟩, ⟨2, [], []⟩, ⟨3, [], []⟩, ⟨4, [], []⟩, ⟨5, [], []⟩, ⟨6, [], []⟩, ⟨7, [], []⟩, ⟨8, [], []⟩, ⟨10, [], []⟩, ⟨11, [], []⟩, ⟨12, [], []⟩, ⟨13, [], []⟩, ⟨14, [], []⟩, ⟨15, [], []⟩, ⟨16, [], []⟩, ⟨17, [], []⟩, ⟨18, [], []⟩, ⟨9, [], [17,13]⟩, ⟨19, [], []⟩, ⟨20, [], []⟩, ⟨21, [], []⟩], .nil), (10, [], [], (.k 5 (.grp false 82 86 4 [83, 84, 85, 86] 87 none (.k 4 .nil) .nil))), (13, [0,1,2,3,4,6,7,8,9,10,5,11,12,13], [⟨0, [], []⟩, ⟨1, [], []⟩, ⟨2, [], []⟩, ⟨3, [], []⟩, ⟨4, [], []⟩, ⟨6, [], []⟩, ⟨7, [], []⟩, ⟨8, [], []⟩, ⟨9, [], []⟩, ⟨10, [], []⟩, ⟨5, [], [9]⟩, ⟨11, [], []⟩, ⟨12, [], []⟩, ⟨13, [], []⟩], .nil)]) (by kernel_rfl) ?_
        simp (maxSteps := 2000000) (disch := first | assumption | (refine asm_intro ?_; assumption) | exact Nat.le_add_right _ _ | exact Nat.le_refl _ | omega | (simp (disch := first | exact Nat.le_add_right _ _ | omega) only [Le_upd hb, Le_app hb, Le_rfl, free_T hb, free_upd]; done) | fail) only [go_sem, push_cast, and_pos, Le_updF, Le_upd hb, free_T hb, Pc.nil, Pc.fldL (m := 5) rfl, Pc.ldL (m := 5) rfl, Pc.ld0L (m := 5) rfl, Pc.cellsL (m := 5) rfl, Pc.cellsOL (m := 5) rfl]
        refine ⟨fun h => ?_, fun hle => ?_⟩
        · rw [hr, if_pos (fun e => by have := hrk.2 e; omega)]
        have heq : c.a[i] = c.b[k] := hrk.1 (by omega)
        rw [if_neg (by simpa using heq)] at hr
        have hll : (args c.s c.a i).length = (args c.s c.b k).length := by rw [args_len, args_len, ga, gb, heq]
        refine tr_for (fun z => ∀ m, m < z → ∀ p q : Int, (args c.s c.a i)[m]? = some p → (args c.s c.b k)[m]? = some q → subT c.s c.a p.toNat = subT c.s c.b q.toNat) ((args c.s c.a i).length) (fun z => [(0, pc), (10, lst (args c.s c.b k)), (118, lst (args c.s c.a i)), (119, .int .i64 (args c.s c.a i).length), (120, .int .i64 z)]) (by simp) (by simp only [go_sem, push_cast, and_pos, Le_updF]) ?_
        intro z Bz hIz hiz hBz
        refine vq_conv pok (E := (((((((Env.base _).add 136 _ W136_ok).add 84 _ W84_ok).add 137 _ W137_ok).add 138 _ W138_ok).add 113 _ W113_ok).add 118 _ ih)) (PL := [(1, [0,1,2,3,4,5,6,7,8,9,10,11,12,13,14,15], [⟨0, [], []⟩, ⟨1, [], []⟩, ⟨2, [], []⟩, ⟨3, [], []⟩, ⟨4, [], []⟩, ⟨5, [], []⟩, ⟨6, [], []⟩, ⟨7, [], []⟩, ⟨8, [], []⟩, ⟨9, [], []⟩, ⟨10, [], []⟩, ⟨11, [], []⟩, ⟨12, [], []⟩, ⟨13, [], []⟩, ⟨14, [], []⟩, ⟨15, [], []⟩], .nil), (3, [0,1,2,3,4,5,6,7,8,9,10,11,13,12,14,15,16], [⟨0, [], []⟩, ⟨1, [], []⟩, ⟨2, [], []⟩, ⟨3, [], []⟩, ⟨4, [], []⟩, ⟨5, [], []⟩, ⟨6, [], []⟩, ⟨7, [], []⟩, ⟨8, [], []⟩, ⟨9, [], []⟩, ⟨10, [], []⟩, ⟨11, [], []⟩, ⟨13, [], []⟩, ⟨12, [], []⟩, ⟨14, [], []⟩, ⟨15, [], []⟩, ⟨16, [], []⟩], .nil), (6, [0,1,2,3,4,5,6,7,8,10,11,12,13,14,15,16,17,18,9,19,20,21], [⟨0, [], []⟩, ⟨1, [], []⟩, ⟨2, [], []⟩, ⟨3, [], []⟩, ⟨4, [], []⟩, ⟨5, [], []⟩, ⟨6, [], []⟩, ⟨7, [], []⟩, ⟨8, [], []⟩, ⟨10, [], []⟩, ⟨11, [], []⟩, ⟨12, [], []⟩, ⟨13, [], []⟩, ⟨14, [], []⟩, ⟨15, [], []⟩, ⟨16, [], []⟩, ⟨17, [], []⟩, ⟨18, [], []⟩, ⟨9, [], [17,13]⟩, ⟨19, [], []⟩, ⟨20, [], []⟩, ⟨21, [], []⟩], .nil), (10, [], [], (.k 5 (.grp false 82 86 4 [83, 84, 85, 86] 87 none (.k 4 .nil) .nil))), (13, [0,1,2,3,4,6,7,8,9,10,5,11,12,13], [⟨0, [], []⟩, ⟨1, [], []⟩, ⟨2, [], []⟩, ⟨3, [], []⟩, ⟨4, [], []⟩, ⟨6, [], []⟩, ⟨7, [], []⟩, ⟨8, [], []⟩, ⟨9, [], []⟩, ⟨10, [], []⟩, ⟨5, [], [9]⟩, ⟨11, [], []⟩, ⟨12, [], []⟩, ⟨13, [], []⟩], .nil)]) (by kernel_rfl) ?_
        rcases Nat.lt_or_ge z ((args c.s c.a i).length) with hltz | hgez
        · obtain ⟨p, e1, g1, g2⟩ := args_get p1 hia hltz
          obtain ⟨q, e2, g3, g4⟩ := args_get p2 hkb (show z < (args c.s c.b k).length by omega)
          simp (maxSteps := 2000000) (disch := first | assumption | (refine asm_intro ?_; assumption) | exact Nat.le_add_right _ _ | exact Nat.le_refl _ | omega | (simp (disch := first | exact Nat.le_add_right _ _ | omega) only [Le_upd hb, Le_app hb, Le_rfl, free_T hb, free_upd]; done) | fail) only [go_sem, push_cast, and_pos, Le_updF, Le_upd hb, free_T hb, Pc.nil, Pc.fldL (m := 5) rfl, Pc.ldL (m := 5) rfl, Pc.ld0L (m := 5) rfl, Pc.cellsL (m := 5) rfl, Pc.cellsOL (m := 5) rfl, e1, e2, hc]
          refine ⟨fun h m hm p' q' hp hq => ?_, fun h => ?_⟩
          · by_cases e : m = z
            · subst e; rw [e1] at hp; rw [e2] at hq; cases hp; cases hq; simpa using h
            · exact hIz m (by omega) p' q' hp hq
          · rw [hr, lexG_go hIz _ _ e1 e2 (by simpa using h)]; simp
        · simp (maxSteps := 2000000) (disch := first | assumption | (refine asm_intro ?_; assumption) | exact Nat.le_add_right _ _ | exact Nat.le_refl _ | omega | (simp (disch := first | exact Nat.le_add_right _ _ | omega) only [Le_upd hb, Le_app hb, Le_rfl, free_T hb, free_upd]; done) | fail) only [go_sem, push_cast, and_pos, Le_updF, Le_upd hb, free_T hb, Pc.nil, Pc.fldL (m := 5) rfl, Pc.ldL (m := 5) rfl, Pc.ld0L (m := 5) rfl, Pc.cellsL (m := 5) rfl, Pc.cellsOL (m := 5) rfl]
          refine vq_conv pok (E := (((((((Env.base _).add 136 _ W136_ok).add 84 _ W84_ok).add 137 _ W137_ok).add 138 _ W138_ok).add 113 _ W113_ok).add 118 _ ih)) (PL := [(1, [0,1,2,3,4,5,6,7,8,9,10,11,12,13,14,15], [⟨0, [], []⟩, ⟨1, [], []⟩, ⟨2, [], []⟩, ⟨3, [], []⟩, ⟨4, [], []⟩, ⟨5, [], []⟩, ⟨6, [], []⟩, ⟨7, [], []⟩, ⟨8, [], []⟩, ⟨9, [], []⟩, ⟨10, [], []⟩, ⟨11, [], []⟩, ⟨12, [], []⟩, ⟨13, [], []⟩, ⟨14, [], []⟩, ⟨15, [], []⟩], .nil), (3, [0,1,2,3,4,5,6,7,8,9,10,11,13,12,14,15,16], [⟨0, [], []⟩, ⟨1, [], []⟩, ⟨2, [], []⟩, ⟨3, [], []⟩, ⟨4, [], []⟩, ⟨5, [], []⟩, ⟨6, [], []⟩, ⟨7, [], []⟩, ⟨8, [], []⟩, ⟨9, [], []⟩, ⟨10, [], []⟩, ⟨11, [], []⟩, ⟨13, [], []⟩, ⟨12, [], []⟩, ⟨14, [], []⟩, ⟨15, [], []⟩, ⟨16, [], []⟩], .nil), (6, [0,1,2,3,4,5,6,7,8,10,11,12,13,14,15,16,17,18,9,19,20,21], [⟨0, [], []⟩, ⟨1, [], []⟩, ⟨2, [], []⟩, ⟨3, [], []⟩, ⟨4, [], []⟩, ⟨5, [], []⟩, ⟨6, [], []⟩, ⟨7, [], []⟩, ⟨8, [], []⟩, ⟨10, [], []⟩, ⟨11, [], []⟩, ⟨12, [], []⟩, ⟨13, [], []⟩, ⟨14, [], []⟩, ⟨15, [], []⟩, ⟨16, [], []⟩, ⟨17, [], []⟩, ⟨18, [], []⟩, ⟨9, [], [17,13]⟩, ⟨19, [], []⟩, ⟨20, [], []⟩, ⟨21, [], []⟩], .nil), (10, [], [], (.k 5 (.grp false 82 86 4 [83, 84, 85, 86] 87 none (.k 4 .nil) .nil))), (13, [0,1,2,3,4,6,7,8,9,10,5,11,12,13], [⟨0, [], []⟩, ⟨1, [], []⟩, ⟨2, [], []⟩, ⟨3, [], []⟩, ⟨4, [], []⟩, ⟨6, [], []⟩, ⟨7, [], []⟩, ⟨8, [], []⟩, ⟨9, [], []⟩, ⟨10, [], []⟩, ⟨5, [], [9]⟩, ⟨11, [], []⟩, ⟨12, [], []⟩, ⟨13, [], []⟩], .nil)]) (by kernel_rfl) ?_
          simp (maxSteps := 2000000) (disch := first | assumption | (refine asm_intro ?_; assumption) | exact Nat.le_add_right _ _ | exact Nat.le_refl _ | omega | (simp (disch := first | exact Nat.le_add_right _ _ | omega) only [Le_upd hb, Le_app hb, Le_rfl, free_T hb, free_upd]; done) | fail) only [go_sem, push_cast, and_pos, Le_updF, Le_upd hb, free_T hb, Pc.nil, Pc.fldL (m := 5) rfl, Pc.ldL (m := 5) rfl, Pc.ld0L (m := 5) rfl, Pc.cellsL (m := 5) rfl, Pc.cellsOL (m := 5) rfl]
          rw [hr, lexG_end fun m p q hp hq => hIz m (by have := (List.getElem?_eq_some_iff.1 hp).1; omega) p q hp hq]
set_option maxHeartbeats 2000000 in
theorem R118_step (N : Nat) (ih : OK 118 (R118 N)) : OK 118 (R118 (N + 1)) := by
  rintro args H Bd K ⟨pc, vi, vk, rfl, cc, ec, h⟩
  obtain ⟨c, i, k, e, hpre, hK⟩ := h
  simp only [List.cons.injEq, and_true] at e
  obtain ⟨Ec, rfl, rfl⟩ := e
  obtain rfl := agg_inj Ec
  refine fn_pure pok ((Env.base _).add 127 _ (R127_step N ih)) [] _ hK Tryz.func118 rfl (rs := [.tmp 6]) rfl Tryz.ntmps118 (by simp) Tryz.call118 (by kernel_rfl) (fun ha hb => .bool _) (fun hb ha => ?_)
  have Pc := cellsAt_out ec (NB.vpok (ha pc (by simp)))
  simp only [enc_GComparer, enc_GSignature] at Pc
  obtain ⟨⟨hc, i1, i2, k1, k2⟩, hrec⟩ := hpre
  have ⟨h1, h2, h3, h4, h5, h6, h7, h8, h9⟩ := hc
  obtain ⟨i, rfl⟩ := Int.eq_ofNat_of_zero_le i1
  obtain ⟨k, rfl⟩ := Int.eq_ofNat_of_zero_le k1
  simp only [Int.toNat_natCast] at hrec
  have hia : i < c.a.length := by omega
  have hkb : k < c.b.length := by omega
  have l1 := h7.len
  have l2 := h8.len
  have n1 := h7.nodes
  have n2 := h8.nodes
  have p1 := term_places h7
  have p2 := term_places h8
  have hpa := p1 i hia
  have hpb := p2 k hkb
  have hl := fun (t : TypeId) [TyM Tryz.prog t] => look_gt (P := Tryz.prog) (t := t) c.s c.order c.a c.b (show i < 32 by omega) (show k < 32 by omega)
  have hm := fun (t : TypeId) [TyM Tryz.prog t] => mset_gt (P := Tryz.prog) (t := t) c.s c.order c.a c.b (show i < 32 by omega) (show k < 32 by omega)
  rw [h9] at Pc
  simp (maxSteps := 2000000) (disch := first | assumption | (refine asm_intro ?_; assumption) | exact Nat.le_add_right _ _ | exact Nat.le_refl _ | omega | (simp (disch := first | exact Nat.le_add_right _ _ | omega) only [Le_upd hb, Le_app hb, Le_rfl, free_T hb, free_upd]; done) | fail) only [go_sem, push_cast, and_pos, Le_updF, Le_upd hb, free_T hb, Pc.nil, Pc.fldL (m := 5) rfl, Pc.ldL (m := 5) rfl, Pc.ld0L (m := 5) rfl, Pc.cellsL (m := 5) rfl, Pc.cellsOL (m := 5) rfl]
  refine tr_still pok ((Env.base _).add 127 _ (R127_step N ih)) 10 (by kernel_rfl) ?_
  simp (maxSteps := 2000000) (disch := first | assumption | (refine asm_intro ?_; assumption) | exact Nat.le_add_right _ _ | exact Nat.le_refl _ | omega | (simp (disch := first | exact Nat.le_add_right _ _ | omega) only [Le_upd hb, Le_app hb, Le_rfl, free_T hb, free_upd]; done) | fail) only [go_sem, push_cast, and_pos, Le_updF, Le_upd hb, free_T hb, Pc.nil, Pc.fldL (m := 5) rfl, Pc.ldL (m := 5) rfl, Pc.ld0L (m := 5) rfl, Pc.cellsL (m := 5) rfl, Pc.cellsOL (m := 5) rfl, hl]
  have hc2 : CmpOK (GComparer.mk c.s c.order c.a c.b (Memo.mk (gtRows c.s c.order c.a c.b))) := ⟨h1, h2, h3, h4, h5, h6, h7, h8, rfl⟩
  refine ⟨⟨⟨hc2, k2⟩, hrec⟩, ?_⟩
  refine tr_still pok ((Env.base _).add 127 _ (R127_step N ih)) 6 (by kernel_rfl) ?_
  simp (maxSteps := 2000000) (disch := first | assumption | (refine asm_intro ?_; assumption) | exact Nat.le_add_right _ _ | exact Nat.le_refl _ | omega | (simp (disch := first | exact Nat.le_add_right _ _ | omega) only [Le_upd hb, Le_app hb, Le_rfl, free_T hb, free_upd]; done) | fail) only [go_sem, push_cast, and_pos, Le_updF, Le_upd hb, free_T hb, Pc.nil, Pc.fldL (m := 5) rfl, Pc.ldL (m := 5) rfl, Pc.ld0L (m := 5) rfl, Pc.cellsL (m := 5) rfl, Pc.cellsOL (m := 5) rfl, hm]
theorem R118_zero : OK 118 (R118 0) := by
  rintro args H Bd K ⟨pc, vi, vk, rfl, cc, ec, h⟩
  obtain ⟨c, i, k, e, hpre, hK⟩ := h
  exact absurd hpre.2 (Nat.not_lt_zero _)
theorem R118_ok : ∀ N, OK 118 (R118 N)
  | 0 => R118_zero
  | N + 1 => R118_step N (R118_ok N)
theorem W118_ok : OK 118 W118 := by
  rintro args H Bd K ⟨pc, vi, vk, rfl, cc, ec, h⟩
  obtain ⟨c, i, k, e, hpre, hK⟩ := h
  exact R118_ok ((c.a.length - i.toNat + (c.b.length - k.toNat)) + 1) _ _ _ _ ⟨pc, vi, vk, rfl, cc, ec, c, i, k, e, ⟨hpre, Nat.lt_succ_self _⟩, hK⟩
def W90 : Trans := fun args H Bd K => ∃ (s : GSignature) (order : List Int) (a : List Int) (b : List Int), args = [.agg (enc (s)).toArray, lst (order), lst (a), lst (b)] ∧ ((sm s ∧ sm order ∧ sm a ∧ sm b ∧ sigF s = 0 ∧ ordG s order = 0 ∧ TermOK s a ∧ TermOK s b) ∧ K (.bool (gt s order a b 0 0)) H Bd)
@[go_sem ↓] theorem W90_eq (s_symbols : List GSymbol) (order : List Int) (a : List Int) (b : List Int) (H : AH) (Bd : Nat) (K : Value → AH → Nat → Prop) : W90 [.agg #[lst (s_symbols)], lst (order), lst (a), lst (b)] H Bd K = ((sm (GSignature.mk s_symbols) ∧ sm order ∧ sm a ∧ sm b ∧ sigF (GSignature.mk s_symbols) = 0 ∧ ordG (GSignature.mk s_symbols) order = 0 ∧ TermOK (GSignature.mk s_symbols) a ∧ TermOK (GSignature.mk s_symbols) b) ∧ K (.bool (gt (GSignature.mk s_symbols) order a b 0 0)) H Bd) := by
  refine propext ⟨fun h => ?_, fun h => ⟨_, _, _, _, rfl, h⟩⟩
  obtain ⟨s', order', a', b', e, h⟩ := h
  obtain ⟨ssymbols'⟩ := s'
  skip
  skip
  skip
  simp only [enc_GSignature, List.cons.injEq, Value.agg.injEq, toArr_inj, Value.int.injEq, Value.bool.injEq, Value.string.injEq, Value.slice.injEq, Value.func.injEq, Value.pointer.injEq, Option.some.injEq, Addr.mk.injEq, lst_inj, true_and, and_true] at e
  obtain ⟨rfl, rfl, rfl, rfl⟩ := e
  exact h
theorem W90_ok : OK 90 W90 := by
  rintro args H Bd K ⟨s, order, a, b, rfl, hpre, hK⟩
  refine fn_pure pok ((Env.base _).add 118 _ W118_ok) [] _ hK Tryz.func90 rfl (rs := [.tmp 8]) rfl Tryz.ntmps90 (by simp) Tryz.call90 (by kernel_rfl) (fun ha hb => .bool _) (fun hb ha => ?_)
  obtain ⟨h1, h2, h3, h4, h5, h6, h7, h8⟩ := hpre
  have l1 := h7.len
  have l2 := h8.len
  simp (maxSteps := 2000000) (disch := first | assumption | (refine asm_intro ?_; assumption) | exact Nat.le_add_right _ _ | exact Nat.le_refl _ | omega | (simp (disch := first | exact Nat.le_add_right _ _ | omega) only [Le_upd hb, Le_app hb, Le_rfl, free_T hb, free_upd]; done) | fail) only [go_sem, push_cast, and_pos, Le_updF, Le_upd hb, free_T hb]
  refine MkMap.use (gtRows s order a b) ?_
  have hc2 : CmpOK (GComparer.mk s order a b (Memo.mk (gtRows s order a b))) := ⟨h1, h2, h3, h4, h5, h6, h7, h8, rfl⟩
  simp (maxSteps := 2000000) (disch := first | assumption | (refine asm_intro ?_; assumption) | exact Nat.le_add_right _ _ | exact Nat.le_refl _ | omega | (simp (disch := first | exact Nat.le_add_right _ _ | omega) only [Le_upd hb, Le_app hb, Le_rfl, free_T hb, free_upd]; done) | fail) only [go_sem, push_cast, and_pos, Le_updF, Le_upd hb, free_T hb, hc2]
def V89 : Trans := fun args H Bd K => ∃ (e : GEquation) (s : GSignature) (order : List Int), args = [.agg (enc (e)).toArray, .agg (enc (s)).toArray, .agg (enc (order)).toArray] ∧ ((sm e ∧ sm s ∧ sm order ∧ sigF s = 0 ∧ ordG s order = 0 ∧ TermOK s e.left ∧ TermOK s e.right) ∧ K (.bool (!gt s order e.left e.right 0 0)) H Bd)
@[go_sem ↓] theorem V89_eq (e_left : List Int) (e_right : List Int) (s_symbols : List GSymbol) (order : List Int) (H : AH) (Bd : Nat) (K : Value → AH → Nat → Prop) : V89 [.agg #[lst (e_left), lst (e_right)], .agg #[lst (s_symbols)], .agg #[lst (order)]] H Bd K = ((sm (GEquation.mk e_left e_right) ∧ sm (GSignature.mk s_symbols) ∧ sm order ∧ sigF (GSignature.mk s_symbols) = 0 ∧ ordG (GSignature.mk s_symbols) order = 0 ∧ TermOK (GSignature.mk s_symbols) (GEquation.mk e_left e_right).left ∧ TermOK (GSignature.mk s_symbols) (GEquation.mk e_left e_right).right) ∧ K (.bool (!gt (GSignature.mk s_symbols) order (GEquation.mk e_left e_right).left (GEquation.mk e_left e_right).right 0 0)) H Bd) := by
  refine propext ⟨fun h => ?_, fun h => ⟨_, _, _, rfl, h⟩⟩
  obtain ⟨e', s', order', e, h⟩ := h
  obtain ⟨eleft', eright'⟩ := e'
  obtain ⟨ssymbols'⟩ := s'
  skip
  simp only [enc_GEquation, enc_GSignature, enc_int, enc_str, enc_list, enc_bool, enc_byte, List.cons.injEq, Value.agg.injEq, toArr_inj, Value.int.injEq, Value.bool.injEq, Value.string.injEq, Value.slice.injEq, Value.func.injEq, Value.pointer.injEq, Option.some.injEq, Addr.mk.injEq, lst_inj, true_and, and_true] at e
  obtain ⟨⟨rfl, rfl⟩, rfl, rfl⟩ := e
  exact h
def W89 : Trans := fun args H Bd K => ∃ (ve ps porder : Value), args = [ve, ps, porder] ∧ Yld (cellsAt H 1 ps) fun cs => Yld (cellsAt H 1 porder) fun corder => callW V89 [ve, .agg cs.toArray, .agg corder.toArray] H Bd K
@[go_sem ↓] theorem W89_eq (ve ps porder : Value) (H : AH) (Bd : Nat) (K : Value → AH → Nat → Prop) : W89 [ve, ps, porder] H Bd K = (Yld (cellsAt H 1 ps) fun cs => Yld (cellsAt H 1 porder) fun corder => callW V89 (idS [ve, .agg cs.toArray, .agg corder.toArray]) H Bd K) := by
  refine propext ⟨fun h => ?_, fun h => ⟨_, _, _, rfl, h⟩⟩
  obtain ⟨ve', ps', porder', e, h⟩ := h
  simp only [List.cons.injEq, and_true] at e
  obtain ⟨rfl, rfl, rfl⟩ := e
  exact h
theorem W89_ok : OK 89 W89 := by
  rintro args H Bd K ⟨ve, ps, porder, rfl, cs, es, corder, eorder, h⟩
  obtain ⟨e, s, order, e, hpre, hK⟩ := h
  simp only [List.cons.injEq, and_true] at e
  obtain ⟨rfl, Es, Eorder⟩ := e
  obtain rfl := agg_inj Es
  obtain rfl := agg_inj Eorder
  refine fn_pure pok ((Env.base _).add 90 _ W90_ok) [] _ hK Tryz.func89 rfl (rs := [.tmp 4]) rfl Tryz.ntmps89 (by simp) Tryz.call89 (by kernel_rfl) (fun ha hb => .bool _) (fun hb ha => ?_)
  have Ps := cellsAt_out es (NB.vpok (ha ps (by simp)))
  simp only [enc_GSignature] at Ps
  have Porder := cellsAt_out eorder (NB.vpok (ha porder (by simp)))
  simp only [enc_int, enc_str, enc_list, enc_bool, enc_byte] at Porder
  obtain ⟨h0, h1, h2, h5, h6, h7, h8⟩ := hpre
  simp only [sm_GEquation] at h0
  have h9 := h0.1
  have h10 := h0.2
  simp (maxSteps := 2000000) (disch := first | assumption | (refine asm_intro ?_; assumption) | exact Nat.le_add_right _ _ | exact Nat.le_refl _ | omega | (simp (disch := first | exact Nat.le_add_right _ _ | omega) only [Le_upd hb, Le_app hb, Le_rfl, free_T hb, free_upd]; done) | fail) only [go_sem, push_cast, and_pos, Le_updF, Le_upd hb, free_T hb, Ps.nil, Ps.fldL (m := 1) rfl, Ps.ldL (m := 1) rfl, Ps.ld0L (m := 1) rfl, Ps.cellsL (m := 1) rfl, Ps.cellsOL (m := 1) rfl, Porder.nil, Porder.fldL (m := 1) rfl, Porder.ldL (m := 1) rfl, Porder.ld0L (m := 1) rfl, Porder.cellsL (m := 1) rfl, Porder.cellsOL (m := 1) rfl, h9, h10, h1, h2, h5, h6, h7, h8]

def V86_89 : Trans := fun args H Bd K => ∃ (xs : List GEquation) (s : GSignature) (order : List Int), args = [lst (xs), .agg (enc (s)).toArray, .agg (enc (order)).toArray] ∧ ((sm xs ∧ ∀ e ∈ xs, sm e ∧ sm s ∧ sm order ∧ sigF s = 0 ∧ ordG s order = 0 ∧ TermOK s e.left ∧ TermOK s e.right) ∧ K (.bool (xs.any (fun e : GEquation => !gt s order e.left e.right 0 0))) H Bd)
@[go_sem ↓] theorem V86_89_eq (xs : List GEquation) (s_symbols : List GSymbol) (order : List Int) (H : AH) (Bd : Nat) (K : Value → AH → Nat → Prop) : V86_89 [lst (xs), .agg #[lst (s_symbols)], .agg #[lst (order)]] H Bd K = ((sm xs ∧ ∀ e ∈ xs, sm e ∧ sm (GSignature.mk s_symbols) ∧ sm order ∧ sigF (GSignature.mk s_symbols) = 0 ∧ ordG (GSignature.mk s_symbols) order = 0 ∧ TermOK (GSignature.mk s_symbols) e.left ∧ TermOK (GSignature.mk s_symbols) e.right) ∧ K (.bool (xs.any (fun e : GEquation => !gt (GSignature.mk s_symbols) order e.left e.right 0 0))) H Bd) := by
  refine propext ⟨fun h => ?_, fun h => ⟨_, _, _, rfl, h⟩⟩
  obtain ⟨xs', s', order', e, h⟩ := h
  skip
  obtain ⟨ssymbols'⟩ := s'
  skip
  simp only [enc_GSignature, enc_int, enc_str, enc_list, enc_bool, enc_byte, List.cons.injEq, Value.agg.injEq, toArr_inj, Value.int.injEq, Value.bool.injEq, Value.string.injEq, Value.slice.injEq, Value.func.injEq, Value.pointer.injEq, Option.some.injEq, Addr.mk.injEq, lst_inj, true_and, and_true] at e
  obtain ⟨rfl, rfl, rfl⟩ := e
  exact h
def W86_89 : Trans := fun args H Bd K => ∃ (vxs ps porder : Value), args = [vxs, .func (.func 89) #[] #[ps, porder]] ∧ Yld (cellsAt H 1 ps) fun cs => Yld (cellsAt H 1 porder) fun corder => callW V86_89 [vxs, .agg cs.toArray, .agg corder.toArray] H Bd K
@[go_sem ↓] theorem W86_89_eq (vxs ps porder : Value) (H : AH) (Bd : Nat) (K : Value → AH → Nat → Prop) : W86_89 [vxs, .func (.func 89) #[] #[ps, porder]] H Bd K = (Yld (cellsAt H 1 ps) fun cs => Yld (cellsAt H 1 porder) fun corder => callW V86_89 (idS [vxs, .agg cs.toArray, .agg corder.toArray]) H Bd K) := by
  refine propext ⟨fun h => ?_, fun h => ⟨_, _, _, rfl, h⟩⟩
  obtain ⟨vxs', ps', porder', e, h⟩ := h
  simp only [List.cons.injEq, Value.func.injEq, toArr_inj, List.cons.injEq, and_true, true_and] at e
  obtain ⟨rfl, rfl, rfl⟩ := e
  exact h
theorem W86_89_ok : OK 86 W86_89 := by
  rintro args H Bd K ⟨vxs, ps, porder, rfl, cs, es, corder, eorder, h⟩
  obtain ⟨xs, s, order, e, hpre, hK⟩ := h
  simp only [List.cons.injEq, and_true] at e
  obtain ⟨rfl, Es, Eorder⟩ := e
  obtain rfl := agg_inj Es
  obtain rfl := agg_inj Eorder
  refine G86 89 #[ps, porder] (fun e : GEquation => !gt s order e.left e.right 0 0) xs H Bd K hpre.1 (fun x hx B hB K' hk => ?_) hK
  exact W89_ok _ _ _ _ ⟨_, _, _, rfl, _, es, _, eorder, x, s, order, rfl, hpre.2 x hx, hk⟩

def W55 : Trans := fun args H Bd K => ∃ (s : GSignature) (order : List Int) (l : List GEquation), args = [.agg (enc (s)).toArray, lst (order), lst (l)] ∧ ((sm s ∧ sm order ∧ rg order ∧ sm l ∧ rg l) ∧ K (.bool (decide (ordF s order = 0 ∧ eqsF s l = 0) && fallsB s order l)) H Bd)
@[go_sem ↓] theorem W55_eq (s_symbols : List GSymbol) (order : List Int) (l : List GEquation) (H : AH) (Bd : Nat) (K : Value → AH → Nat → Prop) : W55 [.agg #[lst (s_symbols)], lst (order), lst (l)] H Bd K = ((sm (GSignature.mk s_symbols) ∧ sm order ∧ rg order ∧ sm l ∧ rg l) ∧ K (.bool (decide (ordF (GSignature.mk s_symbols) order = 0 ∧ eqsF (GSignature.mk s_symbols) l = 0) && fallsB (GSignature.mk s_symbols) order l)) H Bd) := by
  refine propext ⟨fun h => ?_, fun h => ⟨_, _, _, rfl, h⟩⟩
  obtain ⟨s', order', l', e, h⟩ := h
  obtain ⟨ssymbols'⟩ := s'
  skip
  skip
  simp only [enc_GSignature, List.cons.injEq, Value.agg.injEq, toArr_inj, Value.int.injEq, Value.bool.injEq, Value.string.injEq, Value.slice.injEq, Value.func.injEq, Value.pointer.injEq, Option.some.injEq, Addr.mk.injEq, lst_inj, true_and, and_true] at e
  obtain ⟨rfl, rfl, rfl⟩ := e
  exact h
theorem W55_ok : OK 55 W55 := by
  rintro args H Bd K ⟨s, order, l, rfl, hpre, hK⟩
  refine fn_pure pok ((((Env.base _).add 52 _ W52_ok).add 53 _ W53_ok).add 86 _ W86_89_ok) [(1, [], [], (.k 5 (.grp false 11 15 4 [12, 13, 14, 15] 16 none (.k 4 .nil) .nil)))] _ hK Tryz.func55 rfl (rs := [.tmp 6]) rfl Tryz.ntmps55 (by simp) Tryz.call55 (by kernel_rfl) (fun ha hb => .bool _) (fun hb ha => ?_)
  obtain ⟨h1, h2, h3, h4, h5⟩ := hpre
  simp (maxSteps := 2000000) (disch := first | assumption | (refine asm_intro ?_; assumption) | exact Nat.le_add_right _ _ | exact Nat.le_refl _ | omega | (simp (disch := first | exact Nat.le_add_right _ _ | omega) only [Le_upd hb, Le_app hb, Le_rfl, free_T hb, free_upd]; done) | fail) only [go_sem, push_cast, and_pos, Le_updF, Le_upd hb, free_T hb, h1, h2, h3, h4, h5]
  refine ⟨fun h => ?_, fun a1 a2 => ⟨fun e he => ?_, ?_⟩⟩
  · rcases h with h | h <;> simp [h]
  · have o := ordF_zero a1
    have v1 : eqsF s l = eqsG s l := by unfold eqsF; rw [if_neg (by simp [o.1])]
    rw [v1] at a2
    have h6 := eqnG_zero ((eqsG_zero a2).2 e he)
    exact ⟨sm_mem h4 he, o.1, o.2, h6.1, h6.2.1⟩
  · rw [any_not, decide_eq_true a2]; rfl

def W23 : Trans := fun args H Bd K => ∃ (s : GSignature) (x : GTheory), args = [.agg (enc (s)).toArray, .agg (enc (x)).toArray] ∧ ((sm s ∧ sm x ∧ rg x) ∧ K (.int .i64 (thF s x)) H Bd)
@[go_sem ↓] theorem W23_eq (s_symbols : List GSymbol) (x_order : List Int) (x_equations : List GEquation) (x_rules : List GEquation) (H : AH) (Bd : Nat) (K : Value → AH → Nat → Prop) : W23 [.agg #[lst (s_symbols)], .agg #[lst (x_order), lst (x_equations), lst (x_rules)]] H Bd K = ((sm (GSignature.mk s_symbols) ∧ sm (GTheory.mk x_order x_equations x_rules) ∧ rg (GTheory.mk x_order x_equations x_rules)) ∧ K (.int .i64 (thF (GSignature.mk s_symbols) (GTheory.mk x_order x_equations x_rules))) H Bd) := by
  refine propext ⟨fun h => ?_, fun h => ⟨_, _, rfl, h⟩⟩
  obtain ⟨s', x', e, h⟩ := h
  obtain ⟨ssymbols'⟩ := s'
  obtain ⟨xorder', xequations', xrules'⟩ := x'
  simp only [enc_GSignature, enc_GTheory, List.cons.injEq, Value.agg.injEq, toArr_inj, Value.int.injEq, Value.bool.injEq, Value.string.injEq, Value.slice.injEq, Value.func.injEq, Value.pointer.injEq, Option.some.injEq, Addr.mk.injEq, lst_inj, true_and, and_true] at e
  obtain ⟨rfl, ⟨rfl, rfl, rfl⟩⟩ := e
  exact h
set_option maxHeartbeats 2000000 in
theorem W23_ok : OK 23 W23 := by
  rintro args H Bd K ⟨s, x, rfl, hpre, hK⟩
  refine fn_pure pok ((((((Env.base _).add 52 _ W52_ok).add 53 _ W53_ok).add 54 _ W54_ok).add 51 _ W51_ok).add 55 _ W55_ok) [(1, [0,1,2,4,5,6,8,9,10,3,7,11,12,13,14], [⟨0, [], []⟩, ⟨1, [], []⟩, ⟨2, [], []⟩, ⟨4, [], []⟩, ⟨5, [], []⟩, ⟨6, [], []⟩, ⟨8, [], []⟩, ⟨9, [], []⟩, ⟨10, [], []⟩, ⟨3, [], [10,8,6,4]⟩, ⟨7, [], [10,8]⟩, ⟨11, [], []⟩, ⟨12, [], []⟩, ⟨13, [12], []⟩, ⟨14, [], []⟩], .nil)] _ hK Tryz.func23 rfl (rs := [.tmp 4]) rfl Tryz.ntmps23 (by simp) Tryz.call23 (by kernel_rfl) (fun ha hb => .int _ _) (fun hb ha => ?_)
  obtain ⟨h1, h2, h3⟩ := hpre
  simp only [sm_GTheory] at h2
  have h5 : rg x.order := h3.1
  have h6 : rg x.equations := h3.2.1
  have h7 : rg x.rules := h3.2.2
  simp (maxSteps := 2000000) (disch := first | assumption | (refine asm_intro ?_; assumption) | exact Nat.le_add_right _ _ | exact Nat.le_refl _ | omega | (simp (disch := first | exact Nat.le_add_right _ _ | omega) only [Le_upd hb, Le_app hb, Le_rfl, free_T hb, free_upd]; done) | fail) only [go_sem, push_cast, and_pos, Le_updF, Le_upd hb, free_T hb, h1, h2, h5, h6, h7]
  refine ⟨(sm_ints _).2 (by simp), ?_⟩
  rw [firstF3]
  by_cases g0 : sigF s = 0
  · have v0 : ordF s x.order = ordG s x.order := by unfold ordF; rw [if_neg (by simp [g0])]
    have v1 : ∀ l, eqsF s l = eqsG s l := fun l => by unfold eqsF; rw [if_neg (by simp [g0])]
    have v2 : rulesF s x.rules = rulesG s x.rules := by unfold rulesF; rw [if_neg (by simp [g0])]
    have v3 : thF s x = thG s x := by unfold thF; rw [if_neg (by simp [g0])]
    rw [v0, v1, v1, v2, v3]
    unfold thG
    by_cases c0 : ordG s x.order = 0
    · by_cases c1 : eqsG s x.equations = 0
      · by_cases c2 : rulesG s x.rules = 0
        · have c3 := rules_eqs c2
          simp only [Cnp, Imp, c0, c1, c2, c3]
          cases q : fallsB s x.order x.rules <;> simp
        · simp [Cnp, Imp, c0, c1, c2]
      · simp [Cnp, Imp, c0, c1]
    · simp [Cnp, Imp, c0]
  · have v0 : ordF s x.order = sigF s := by unfold ordF; rw [if_pos g0]
    have v3 : thF s x = sigF s := by unfold thF; rw [if_pos g0]
    rw [v0, if_pos g0, v3]
    exact ⟨fun h => absurd h g0, fun _ => rfl⟩

def W92 : Trans := fun args H Bd K => ∃ (x : GEquation) (y : GEquation), args = [.agg (enc (x)).toArray, .agg (enc (y)).toArray] ∧ ((sm x) ∧ K (.bool (decide (x = y))) H Bd)
@[go_sem ↓] theorem W92_eq (x_left : List Int) (x_right : List Int) (y_left : List Int) (y_right : List Int) (H : AH) (Bd : Nat) (K : Value → AH → Nat → Prop) : W92 [.agg #[lst (x_left), lst (x_right)], .agg #[lst (y_left), lst (y_right)]] H Bd K = ((sm (GEquation.mk x_left x_right)) ∧ K (.bool (decide ((GEquation.mk x_left x_right) = (GEquation.mk y_left y_right)))) H Bd) := by
  refine propext ⟨fun h => ?_, fun h => ⟨_, _, rfl, h⟩⟩
  obtain ⟨x', y', e, h⟩ := h
  obtain ⟨xleft', xright'⟩ := x'
  obtain ⟨yleft', yright'⟩ := y'
  simp only [enc_GEquation, List.cons.injEq, Value.agg.injEq, toArr_inj, Value.int.injEq, Value.bool.injEq, Value.string.injEq, Value.slice.injEq, Value.func.injEq, Value.pointer.injEq, Option.some.injEq, Addr.mk.injEq, lst_inj, true_and, and_true] at e
  obtain ⟨⟨rfl, rfl⟩, ⟨rfl, rfl⟩⟩ := e
  exact h
theorem W92_ok : OK 92 W92 := by
  rintro args H Bd K ⟨x, y, rfl, hpre, hK⟩
  refine fn_pure pok ((Env.base _).add 56 _ W56_ok) [(1, [], [], (.k 6 (.grp true 10 15 5 [11, 12, 13, 14, 15] 16 none (.k 5 .nil) (.k 1 .nil))))] _ hK Tryz.func92 rfl (rs := [.tmp 4]) rfl Tryz.ntmps92 (by simp) Tryz.call92 (by kernel_rfl) (fun ha hb => .bool _) (fun hb ha => ?_)
  simp only [sm_GEquation] at hpre
  simp (maxSteps := 2000000) (disch := first | assumption | (refine asm_intro ?_; assumption) | exact Nat.le_add_right _ _ | exact Nat.le_refl _ | omega | (simp (disch := first | exact Nat.le_add_right _ _ | omega) only [Le_upd hb, Le_app hb, Le_rfl, free_T hb, free_upd]; done) | fail) only [go_sem, push_cast, and_pos, Le_updF, Le_upd hb, free_T hb, hpre]
  all_goals (cases x; cases y)
  all_goals first | done | trivial | ((try simp only [Cnp, Imp]); grind)

def W91 : Trans := fun args H Bd K => ∃ (xs : List GEquation) (ys : List GEquation), args = [lst (xs), lst (ys), .func (.func 92) #[] #[]] ∧ ((sm xs) ∧ K (.bool (decide (xs = ys))) H Bd)
@[go_sem ↓] theorem W91_eq (xs : List GEquation) (ys : List GEquation) (H : AH) (Bd : Nat) (K : Value → AH → Nat → Prop) : W91 [lst (xs), lst (ys), .func (.func 92) #[] #[]] H Bd K = ((sm xs) ∧ K (.bool (decide (xs = ys))) H Bd) := by
  refine propext ⟨fun h => ?_, fun h => ⟨_, _, rfl, h⟩⟩
  obtain ⟨xs', ys', e, h⟩ := h
  skip
  skip
  simp only [List.cons.injEq, Value.agg.injEq, toArr_inj, Value.int.injEq, Value.bool.injEq, Value.string.injEq, Value.slice.injEq, Value.func.injEq, Value.pointer.injEq, Option.some.injEq, Addr.mk.injEq, lst_inj, true_and, and_true] at e
  obtain ⟨rfl, rfl⟩ := e
  exact h
set_option maxHeartbeats 2000000 in
theorem W91_ok : OK 91 W91 := by
  rintro args H Bd K ⟨xs, ys, rfl, hpre, hK⟩
  refine fn_pure pok ((Env.base _).add 92 _ W92_ok) [] _ hK Tryz.func91 rfl (rs := [.tmp 6]) rfl Tryz.ntmps91 (by simp) Tryz.call91 (by kernel_rfl) (fun ha hb => .bool _) (fun hb ha => ?_)
  have hlen := sm_len hpre
  simp (maxSteps := 2000000) (disch := first | assumption | (refine asm_intro ?_; assumption) | exact Nat.le_add_right _ _ | exact Nat.le_refl _ | omega | (simp (disch := first | exact Nat.le_add_right _ _ | omega) only [Le_upd hb, Le_app hb, Le_rfl, free_T hb, free_upd]; done) | fail) only [go_sem, push_cast, and_pos, Le_updF, Le_upd hb, free_T hb]
  refine Cnp.of (fun hl => ?_) (fun hl => cmp_len (by omega))
  have hl' : xs.length = ys.length := by omega
  refine tr_for (fun i => ∀ j, j < i → xs[j]? = ys[j]?) xs.length (fun i => [(0, lst xs), (1, lst ys), (2, .func (.func 92) #[] #[]), (15, lst xs), (16, .int .i64 xs.length), (17, .int .i64 i)]) (fun j h => by omega) (by simp only [go_sem, push_cast, and_pos, Le_updF]) ?_
  intro i B0 hI hi hB
  refine vq_conv pok (E := ((Env.base _).add 92 _ W92_ok)) (PL := []) (by kernel_rfl) ?_
  rcases Nat.lt_or_ge i xs.length with hlt | hge
  · have e1 : xs[i]? = some xs[i] := List.getElem?_eq_getElem hlt
    have e2 : ys[i]? = some (ys[i]'(by omega)) := List.getElem?_eq_getElem _
    have hx := sm_mem hpre (List.getElem_mem hlt)
    simp (maxSteps := 2000000) (disch := first | assumption | (refine asm_intro ?_; assumption) | exact Nat.le_add_right _ _ | exact Nat.le_refl _ | omega | (simp (disch := first | exact Nat.le_add_right _ _ | omega) only [Le_upd hb, Le_app hb, Le_rfl, free_T hb, free_upd]; done) | fail) only [go_sem, push_cast, and_pos, Le_updF, Le_upd hb, free_T hb, e1, e2, hx]
    exact cmp_step hl' hI hlt (by omega) rfl fun h => h
  · simp (maxSteps := 2000000) (disch := first | assumption | (refine asm_intro ?_; assumption) | exact Nat.le_add_right _ _ | exact Nat.le_refl _ | omega | (simp (disch := first | exact Nat.le_add_right _ _ | omega) only [Le_upd hb, Le_app hb, Le_rfl, free_T hb, free_upd]; done) | fail) only [go_sem, push_cast, and_pos, Le_updF, Le_upd hb, free_T hb]
    refine vq_conv pok (E := ((Env.base _).add 92 _ W92_ok)) (PL := []) (by kernel_rfl) ?_
    simp (maxSteps := 2000000) (disch := first | assumption | (refine asm_intro ?_; assumption) | exact Nat.le_add_right _ _ | exact Nat.le_refl _ | omega | (simp (disch := first | exact Nat.le_add_right _ _ | omega) only [Le_upd hb, Le_app hb, Le_rfl, free_T hb, free_upd]; done) | fail) only [go_sem, push_cast, and_pos, Le_updF, Le_upd hb, free_T hb]
    exact cmp_end hl' hI hge

def W57 : Trans := fun args H Bd K => ∃ (xs : List GEquation) (ys : List GEquation), args = [lst (xs), lst (ys)] ∧ ((sm xs) ∧ K (.bool (decide (xs = ys))) H Bd)
@[go_sem ↓] theorem W57_eq (xs : List GEquation) (ys : List GEquation) (H : AH) (Bd : Nat) (K : Value → AH → Nat → Prop) : W57 [lst (xs), lst (ys)] H Bd K = ((sm xs) ∧ K (.bool (decide (xs = ys))) H Bd) := by
  refine propext ⟨fun h => ?_, fun h => ⟨_, _, rfl, h⟩⟩
  obtain ⟨xs', ys', e, h⟩ := h
  skip
  skip
  simp only [List.cons.injEq, Value.agg.injEq, toArr_inj, Value.int.injEq, Value.bool.injEq, Value.string.injEq, Value.slice.injEq, Value.func.injEq, Value.pointer.injEq, Option.some.injEq, Addr.mk.injEq, lst_inj, true_and, and_true] at e
  obtain ⟨rfl, rfl⟩ := e
  exact h
theorem W57_ok : OK 57 W57 := by
  rintro args H Bd K ⟨xs, ys, rfl, hpre, hK⟩
  refine fn_pure pok ((Env.base _).add 91 _ W91_ok) [] _ hK Tryz.func57 rfl (rs := [.tmp 4]) rfl Tryz.ntmps57 (by simp) Tryz.call57 (by kernel_rfl) (fun ha hb => .bool _) (fun hb ha => ?_)
  simp (maxSteps := 2000000) (disch := first | assumption | (refine asm_intro ?_; assumption) | exact Nat.le_add_right _ _ | exact Nat.le_refl _ | omega | (simp (disch := first | exact Nat.le_add_right _ _ | omega) only [Le_upd hb, Le_app hb, Le_rfl, free_T hb, free_upd]; done) | fail) only [go_sem, push_cast, and_pos, Le_updF, Le_upd hb, free_T hb]
  all_goals first | done | trivial | ((try simp only [Cnp, Imp]); grind)

def W24b : Trans := fun args H Bd K => ∃ (x : GTheory) (y : GTheory), args = [.agg (enc (x)).toArray, .agg (enc (y)).toArray] ∧ ((sm x) ∧ K (.bool (decide (x = y))) H Bd)
@[go_sem ↓] theorem W24b_eq (x_order : List Int) (x_equations : List GEquation) (x_rules : List GEquation) (y_order : List Int) (y_equations : List GEquation) (y_rules : List GEquation) (H : AH) (Bd : Nat) (K : Value → AH → Nat → Prop) : W24b [.agg #[lst (x_order), lst (x_equations), lst (x_rules)], .agg #[lst (y_order), lst (y_equations), lst (y_rules)]] H Bd K = ((sm (GTheory.mk x_order x_equations x_rules)) ∧ K (.bool (decide ((GTheory.mk x_order x_equations x_rules) = (GTheory.mk y_order y_equations y_rules)))) H Bd) := by
  refine propext ⟨fun h => ?_, fun h => ⟨_, _, rfl, h⟩⟩
  obtain ⟨x', y', e, h⟩ := h
  obtain ⟨xorder', xequations', xrules'⟩ := x'
  obtain ⟨yorder', yequations', yrules'⟩ := y'
  simp only [enc_GTheory, List.cons.injEq, Value.agg.injEq, toArr_inj, Value.int.injEq, Value.bool.injEq, Value.string.injEq, Value.slice.injEq, Value.func.injEq, Value.pointer.injEq, Option.some.injEq, Addr.mk.injEq, lst_inj, true_and, and_true] at e
  obtain ⟨⟨rfl, rfl, rfl⟩, ⟨rfl, rfl, rfl⟩⟩ := e
  exact h
theorem W24b_ok : OK 24 W24b := by
  rintro args H Bd K ⟨x, y, rfl, hpre, hK⟩
  refine fn_pure pok (((Env.base _).add 56 _ W56_ok).add 57 _ W57_ok) [(1, [], [], (.k 6 (.grp true 10 15 5 [11, 12, 13, 14, 15] 16 none (.k 5 .nil) (.k 1 (.grp true 17 22 5 [18, 19, 20, 21, 22] 23 none (.k 5 .nil) (.k 1 .nil))))))] _ hK Tryz.func24 rfl (rs := [.tmp 4]) rfl Tryz.ntmps24 (by simp) Tryz.call24 (by kernel_rfl) (fun ha hb => .bool _) (fun hb ha => ?_)
  simp only [sm_GTheory] at hpre
  simp (maxSteps := 2000000) (disch := first | assumption | (refine asm_intro ?_; assumption) | exact Nat.le_add_right _ _ | exact Nat.le_refl _ | omega | (simp (disch := first | exact Nat.le_add_right _ _ | omega) only [Le_upd hb, Le_app hb, Le_rfl, free_T hb, free_upd]; done) | fail) only [go_sem, push_cast, and_pos, Le_updF, Le_upd hb, free_T hb, hpre]
  all_goals (cases x; cases y)
  all_goals first | done | trivial | ((try simp only [Cnp, Imp]); grind)

--GIVE
def W24 : Trans := NilT 1 [1, 2, 2] W24b
@[go_sem ↓] theorem W24_eq (v0 v1 : Value) (H : AH) (Bd : Nat) (K : Value → AH → Nat → Prop) : W24 [v0, v1] H Bd K = callW W24b (idS [v0, nilAgg [1, 2, 2] v1]) H Bd K := (rfl)
theorem W24_ok : OK 24 W24 := NilT_ok 1 [1, 2, 2] W24b_ok

theorem G96 (g : Nat) (caps : Array Value) (p : List Int → Bool) (xs : List (List Int)) (H : AH) (Bd : Nat) (K : Value → AH → Nat → Prop) (hsm : sm xs) (hg : ∀ x ∈ xs, ∀ B, Bd ≤ B → ∀ K' : Value → AH → Nat → Prop, K' (.bool (p x)) H B → SCalls Tryz.prog g (idS ((lst (x)) :: caps.toList)) H B K') (hK : K (.int .i64 (fidx p xs)) H Bd) : SCalls Tryz.prog 96 [lst xs, .func (.func g) #[] caps] H Bd K := by
  refine fn_pure pok (Env.base _) [] _ hK Tryz.func96 rfl (rs := [.tmp 4]) rfl Tryz.ntmps96 (by simp) Tryz.call96 (by kernel_rfl) (fun ha hb => .int _ _) (fun hb ha => ?_)
  have hlen := sm_len hsm
  simp (maxSteps := 2000000) (disch := first | assumption | (refine asm_intro ?_; assumption) | exact Nat.le_add_right _ _ | exact Nat.le_refl _ | omega | (simp (disch := first | exact Nat.le_add_right _ _ | omega) only [Le_upd hb, Le_app hb, Le_rfl, free_T hb, free_upd]; done) | fail) only [go_sem, push_cast, and_pos, Le_updF, Le_upd hb, free_T hb]
  refine tr_for (fun i => ∀ j, j < i → ∀ x, xs[j]? = some x → p x = false) (xs.length) (fun i => [(0, lst xs), (1, .func (.func g) #[] caps), (7, .int .i64 xs.length), (8, .int .i64 i)]) (by simp) (by simp only [go_sem, push_cast, and_pos, Le_updF]) ?_
  intro i Bi hIi hii hBi
  refine vq_conv pok (E := (Env.base _)) (PL := []) (by kernel_rfl) ?_
  rcases Nat.lt_or_ge i (xs.length) with hlti | hgei
  · have e1 : xs[i]? = some xs[i] := List.getElem?_eq_getElem hlti
    simp (maxSteps := 2000000) (disch := first | assumption | (refine asm_intro ?_; assumption) | exact Nat.le_add_right _ _ | exact Nat.le_refl _ | omega | (simp (disch := first | exact Nat.le_add_right _ _ | omega) only [Le_upd hb, Le_app hb, Le_rfl, free_T hb, free_upd]; done) | fail) only [go_sem, push_cast, and_pos, Le_updF, Le_upd hb, free_T hb, e1]
    refine hg _ (List.getElem_mem hlti) _ (by omega) _ ?_
    simp (maxSteps := 2000000) (disch := first | assumption | (refine asm_intro ?_; assumption) | exact Nat.le_add_right _ _ | exact Nat.le_refl _ | omega | (simp (disch := first | exact Nat.le_add_right _ _ | omega) only [Le_upd hb, Le_app hb, Le_rfl, free_T hb, free_upd]; done) | fail) only [go_sem, push_cast, and_pos, Le_updF, Le_upd hb, free_T hb, e1]
    exact ⟨fun h => by rw [fidx_hit hlti hIi h], fun h => fun j hj x hx => by
      by_cases e : j = i
      · subst e; rw [e1] at hx; cases hx; simpa using h
      · exact hIi j (by omega) x hx⟩
  · simp (maxSteps := 2000000) (disch := first | assumption | (refine asm_intro ?_; assumption) | exact Nat.le_add_right _ _ | exact Nat.le_refl _ | omega | (simp (disch := first | exact Nat.le_add_right _ _ | omega) only [Le_upd hb, Le_app hb, Le_rfl, free_T hb, free_upd]; done) | fail) only [go_sem, push_cast, and_pos, Le_updF, Le_upd hb, free_T hb]
    refine vq_conv pok (E := (Env.base _)) (PL := []) (by kernel_rfl) ?_
    simp (maxSteps := 2000000) (disch := first | assumption | (refine asm_intro ?_; assumption) | exact Nat.le_add_right _ _ | exact Nat.le_refl _ | omega | (simp (disch := first | exact Nat.le_add_right _ _ | omega) only [Le_upd hb, Le_app hb, Le_rfl, free_T hb, free_upd]; done) | fail) only [go_sem, push_cast, and_pos, Le_updF, Le_upd hb, free_T hb]
    rw [fidx_none fun j hj x hx => hIi j (by omega) x hx]

theorem G59 (g : Nat) (caps : Array Value) (p : List Int → Bool) (xs : List (List Int)) (H : AH) (Bd : Nat) (K : Value → AH → Nat → Prop) (hsm : sm xs) (hg : ∀ x ∈ xs, ∀ B, Bd ≤ B → ∀ K' : Value → AH → Nat → Prop, K' (.bool (p x)) H B → SCalls Tryz.prog g (idS ((lst (x)) :: caps.toList)) H B K') (hK : K (.bool (xs.any p)) H Bd) : SCalls Tryz.prog 59 [lst xs, .func (.func g) #[] caps] H Bd K := by
  refine fn_pure pok (Env.base _) [] _ hK Tryz.func59 rfl (rs := [.tmp 4]) rfl Tryz.ntmps59 (by simp) Tryz.call59 (by kernel_rfl) (fun ha hb => .bool _) (fun hb ha => ?_)
  simp (maxSteps := 2000000) (disch := first | assumption | (refine asm_intro ?_; assumption) | exact Nat.le_add_right _ _ | exact Nat.le_refl _ | omega | (simp (disch := first | exact Nat.le_add_right _ _ | omega) only [Le_upd hb, Le_app hb, Le_rfl, free_T hb, free_upd]; done) | fail) only [go_sem, push_cast, and_pos, Le_updF, Le_upd hb, free_T hb]
  refine G96 _ _ p xs _ _ _ hsm hg ?_
  simp (maxSteps := 2000000) (disch := first | assumption | (refine asm_intro ?_; assumption) | exact Nat.le_add_right _ _ | exact Nat.le_refl _ | omega | (simp (disch := first | exact Nat.le_add_right _ _ | omega) only [Le_upd hb, Le_app hb, Le_rfl, free_T hb, free_upd]; done) | fail) only [go_sem, push_cast, and_pos, Le_updF, Le_upd hb, free_T hb]
  exact fidx_ge p xs

def W97 : Trans := fun args H Bd K => ∃ (n : Int), args = [.int .i64 (n)] ∧ (K (.bool (decide (n < 0))) H Bd)
@[go_sem ↓] theorem W97_eq (n : Int) (H : AH) (Bd : Nat) (K : Value → AH → Nat → Prop) : W97 [.int .i64 (n)] H Bd K = (K (.bool (decide (n < 0))) H Bd) := by
  refine propext ⟨fun h => ?_, fun h => ⟨_, rfl, h⟩⟩
  obtain ⟨n', e, h⟩ := h
  skip
  simp only [List.cons.injEq, Value.agg.injEq, toArr_inj, Value.int.injEq, Value.bool.injEq, Value.string.injEq, Value.slice.injEq, Value.func.injEq, Value.pointer.injEq, Option.some.injEq, Addr.mk.injEq, lst_inj, true_and, and_true] at e
  obtain rfl := e
  exact h
theorem W97_ok : OK 97 W97 := by
  rintro args H Bd K ⟨n, rfl, hK⟩
  refine fn_pure pok (Env.base _) [] _ hK Tryz.func97 rfl (rs := [.tmp 2]) rfl Tryz.ntmps97 (by simp) Tryz.call97 (by kernel_rfl) (fun ha hb => .bool _) (fun hb ha => ?_)
  simp (maxSteps := 2000000) (disch := first | assumption | (refine asm_intro ?_; assumption) | exact Nat.le_add_right _ _ | exact Nat.le_refl _ | omega | (simp (disch := first | exact Nat.le_add_right _ _ | omega) only [Le_upd hb, Le_app hb, Le_rfl, free_T hb, free_upd]; done) | fail) only [go_sem, push_cast, and_pos, Le_updF, Le_upd hb, free_T hb]

def V81_97 : Trans := fun args H Bd K => ∃ (xs : List Int), args = [lst (xs)] ∧ ((sm xs) ∧ K (.bool (xs.any (fun n : Int => decide (n < 0)))) H Bd)
@[go_sem ↓] theorem V81_97_eq (xs : List Int) (H : AH) (Bd : Nat) (K : Value → AH → Nat → Prop) : V81_97 [lst (xs)] H Bd K = ((sm xs) ∧ K (.bool (xs.any (fun n : Int => decide (n < 0)))) H Bd) := by
  refine propext ⟨fun h => ?_, fun h => ⟨_, rfl, h⟩⟩
  obtain ⟨xs', e, h⟩ := h
  skip
  simp only [List.cons.injEq, Value.agg.injEq, toArr_inj, Value.int.injEq, Value.bool.injEq, Value.string.injEq, Value.slice.injEq, Value.func.injEq, Value.pointer.injEq, Option.some.injEq, Addr.mk.injEq, lst_inj, true_and, and_true] at e
  obtain rfl := e
  exact h
def W81_97 : Trans := fun args H Bd K => ∃ (vxs : Value), args = [vxs, .func (.func 97) #[] #[]] ∧ callW V81_97 [vxs] H Bd K
@[go_sem ↓] theorem W81_97_eq (vxs : Value) (H : AH) (Bd : Nat) (K : Value → AH → Nat → Prop) : W81_97 [vxs, .func (.func 97) #[] #[]] H Bd K = (callW V81_97 (idS [vxs]) H Bd K) := by
  refine propext ⟨fun h => ?_, fun h => ⟨_, rfl, h⟩⟩
  obtain ⟨vxs', e, h⟩ := h
  simp only [List.cons.injEq, Value.func.injEq, toArr_inj, List.cons.injEq, and_true, true_and] at e
  obtain rfl := e
  exact h
theorem W81_97_ok : OK 81 W81_97 := by
  rintro args H Bd K ⟨vxs, rfl, h⟩
  obtain ⟨xs, e, hpre, hK⟩ := h
  simp only [List.cons.injEq, and_true] at e
  obtain rfl := e
  refine G81 97 #[] (fun n : Int => decide (n < 0)) xs H Bd K hpre (fun x hx B hB K' hk => ?_) hK
  exact W97_ok _ _ _ _ ⟨x, rfl, hk⟩

def W60 : Trans := fun args H Bd K => ∃ (t : List Int), args = [lst (t)] ∧ ((sm t) ∧ K (.bool (t.any fun n => decide (n < 0))) H Bd)
@[go_sem ↓] theorem W60_eq (t : List Int) (H : AH) (Bd : Nat) (K : Value → AH → Nat → Prop) : W60 [lst (t)] H Bd K = ((sm t) ∧ K (.bool (t.any fun n => decide (n < 0))) H Bd) := by
  refine propext ⟨fun h => ?_, fun h => ⟨_, rfl, h⟩⟩
  obtain ⟨t', e, h⟩ := h
  skip
  simp only [List.cons.injEq, Value.agg.injEq, toArr_inj, Value.int.injEq, Value.bool.injEq, Value.string.injEq, Value.slice.injEq, Value.func.injEq, Value.pointer.injEq, Option.some.injEq, Addr.mk.injEq, lst_inj, true_and, and_true] at e
  obtain rfl := e
  exact h
theorem W60_ok : OK 60 W60 := by
  rintro args H Bd K ⟨t, rfl, hpre, hK⟩
  refine fn_pure pok ((Env.base _).add 81 _ W81_97_ok) [] _ hK Tryz.func60 rfl (rs := [.tmp 2]) rfl Tryz.ntmps60 (by simp) Tryz.call60 (by kernel_rfl) (fun ha hb => .bool _) (fun hb ha => ?_)
  simp (maxSteps := 2000000) (disch := first | assumption | (refine asm_intro ?_; assumption) | exact Nat.le_add_right _ _ | exact Nat.le_refl _ | omega | (simp (disch := first | exact Nat.le_add_right _ _ | omega) only [Le_upd hb, Le_app hb, Le_rfl, free_T hb, free_upd]; done) | fail) only [go_sem, push_cast, and_pos, Le_updF, Le_upd hb, free_T hb, hpre]

def V59_60 : Trans := fun args H Bd K => ∃ (xs : List (List Int)), args = [lst (xs)] ∧ ((sm xs ∧ ∀ t ∈ xs, sm t) ∧ K (.bool (xs.any (fun t : List Int => t.any fun n => decide (n < 0)))) H Bd)
@[go_sem ↓] theorem V59_60_eq (xs : List (List Int)) (H : AH) (Bd : Nat) (K : Value → AH → Nat → Prop) : V59_60 [lst (xs)] H Bd K = ((sm xs ∧ ∀ t ∈ xs, sm t) ∧ K (.bool (xs.any (fun t : List Int => t.any fun n => decide (n < 0)))) H Bd) := by
  refine propext ⟨fun h => ?_, fun h => ⟨_, rfl, h⟩⟩
  obtain ⟨xs', e, h⟩ := h
  skip
  simp only [List.cons.injEq, Value.agg.injEq, toArr_inj, Value.int.injEq, Value.bool.injEq, Value.string.injEq, Value.slice.injEq, Value.func.injEq, Value.pointer.injEq, Option.some.injEq, Addr.mk.injEq, lst_inj, true_and, and_true] at e
  obtain rfl := e
  exact h
def W59_60 : Trans := fun args H Bd K => ∃ (vxs : Value), args = [vxs, .func (.func 60) #[] #[]] ∧ callW V59_60 [vxs] H Bd K
@[go_sem ↓] theorem W59_60_eq (vxs : Value) (H : AH) (Bd : Nat) (K : Value → AH → Nat → Prop) : W59_60 [vxs, .func (.func 60) #[] #[]] H Bd K = (callW V59_60 (idS [vxs]) H Bd K) := by
  refine propext ⟨fun h => ?_, fun h => ⟨_, rfl, h⟩⟩
  obtain ⟨vxs', e, h⟩ := h
  simp only [List.cons.injEq, Value.func.injEq, toArr_inj, List.cons.injEq, and_true, true_and] at e
  obtain rfl := e
  exact h
theorem W59_60_ok : OK 59 W59_60 := by
  rintro args H Bd K ⟨vxs, rfl, h⟩
  obtain ⟨xs, e, hpre, hK⟩ := h
  simp only [List.cons.injEq, and_true] at e
  obtain rfl := e
  refine G59 60 #[] (fun t : List Int => t.any fun n => decide (n < 0)) xs H Bd K hpre.1 (fun x hx B hB K' hk => ?_) hK
  exact W60_ok _ _ _ _ ⟨x, rfl, hpre.2 x hx, hk⟩

def W25b : Trans := fun args H Bd K => ∃ (s : GSignature) (ts : List (List Int)), args = [.agg (enc (s)).toArray, lst (ts)] ∧ ((sm s ∧ sm ts ∧ rg ts) ∧ K (.int .i64 (gfault s ts)) H Bd)
@[go_sem ↓] theorem W25b_eq (s_symbols : List GSymbol) (ts : List (List Int)) (H : AH) (Bd : Nat) (K : Value → AH → Nat → Prop) : W25b [.agg #[lst (s_symbols)], lst (ts)] H Bd K = ((sm (GSignature.mk s_symbols) ∧ sm ts ∧ rg ts) ∧ K (.int .i64 (gfault (GSignature.mk s_symbols) ts)) H Bd) := by
  refine propext ⟨fun h => ?_, fun h => ⟨_, _, rfl, h⟩⟩
  obtain ⟨s', ts', e, h⟩ := h
  obtain ⟨ssymbols'⟩ := s'
  skip
  simp only [enc_GSignature, List.cons.injEq, Value.agg.injEq, toArr_inj, Value.int.injEq, Value.bool.injEq, Value.string.injEq, Value.slice.injEq, Value.func.injEq, Value.pointer.injEq, Option.some.injEq, Addr.mk.injEq, lst_inj, true_and, and_true] at e
  obtain ⟨rfl, rfl⟩ := e
  exact h
theorem W25b_ok : OK 25 W25b := by
  rintro args H Bd K ⟨s, ts, rfl, hpre, hK⟩
  refine fn_pure pok (((Env.base _).add 58 _ W58_ok).add 59 _ W59_60_ok) [] _ hK Tryz.func25 rfl (rs := [.tmp 4]) rfl Tryz.ntmps25 (by simp) Tryz.call25 (by kernel_rfl) (fun ha hb => .int _ _) (fun hb ha => ?_)
  obtain ⟨h1, h2, h3⟩ := hpre
  have hlt2 := sm_len h2
  simp (maxSteps := 2000000) (disch := first | assumption | (refine asm_intro ?_; assumption) | exact Nat.le_add_right _ _ | exact Nat.le_refl _ | omega | (simp (disch := first | exact Nat.le_add_right _ _ | omega) only [Le_upd hb, Le_app hb, Le_rfl, free_T hb, free_upd]; done) | fail) only [go_sem, push_cast, and_pos, Le_updF, Le_upd hb, free_T hb]
  refine tr_for (fun i => ∀ j, j < i → ∀ y, ts[j]? = some y → termF s y = 0) (ts.length) (fun i => [(1, lst ts), (2, .pointer (some ⟨Bd, 0, none⟩)), (8, lst ts), (9, .int .i64 ts.length), (10, .int .i64 i)]) (fun j hj => absurd hj (Nat.not_lt_zero _)) (by simp only [go_sem, push_cast, and_pos, Le_updF]) ?_
  intro i Bi hIi hii hBi
  refine vq_conv pok (E := (((Env.base _).add 58 _ W58_ok).add 59 _ W59_60_ok)) (PL := []) (by kernel_rfl) ?_
  rcases Nat.lt_or_ge i (ts.length) with hlti | hgei
  · have e1 : ts[i]? = some ts[i] := List.getElem?_eq_getElem hlti
    have h5 := sm_mem h2 (List.getElem_mem hlti)
    have h6 := h3 _ (List.getElem_mem hlti)
    simp (maxSteps := 2000000) (disch := first | assumption | (refine asm_intro ?_; assumption) | exact Nat.le_add_right _ _ | exact Nat.le_refl _ | omega | (simp (disch := first | exact Nat.le_add_right _ _ | omega) only [Le_upd hb, Le_app hb, Le_rfl, free_T hb, free_upd]; done) | fail) only [go_sem, push_cast, and_pos, Le_updF, Le_upd hb, free_T hb, e1, h1, h5, h6]
    refine ⟨fun h j hj y hy => ?_, fun h => ?_⟩
    · by_cases e : j = i
      · subst e; rw [e1] at hy; cases hy; exact h
      · exact hIi j (by omega) y hy
    · unfold gfault; rw [firstF_hit e1 hIi h, if_pos h]
  · have hz : firstF (termF s) ts = 0 := firstF_all fun x hx => by
      obtain ⟨j, hj, rfl⟩ := List.getElem_of_mem hx
      exact hIi j (by omega) _ (List.getElem?_eq_getElem hj)
    simp (maxSteps := 2000000) (disch := first | assumption | (refine asm_intro ?_; assumption) | exact Nat.le_add_right _ _ | exact Nat.le_refl _ | omega | (simp (disch := first | exact Nat.le_add_right _ _ | omega) only [Le_upd hb, Le_app hb, Le_rfl, free_T hb, free_upd]; done) | fail) only [go_sem, push_cast, and_pos, Le_updF, Le_upd hb, free_T hb]
    refine vq_conv pok (E := (((Env.base _).add 58 _ W58_ok).add 59 _ W59_60_ok)) (PL := []) (by kernel_rfl) ?_
    simp (maxSteps := 2000000) (disch := first | assumption | (refine asm_intro ?_; assumption) | exact Nat.le_add_right _ _ | exact Nat.le_refl _ | omega | (simp (disch := first | exact Nat.le_add_right _ _ | omega) only [Le_upd hb, Le_app hb, Le_rfl, free_T hb, free_upd]; done) | fail) only [go_sem, push_cast, and_pos, Le_updF, Le_upd hb, free_T hb, h2]
    unfold gfault
    rw [if_neg (by simp [hz])]
    exact ⟨fun t ht => sm_mem h2 ht, fun h => by rw [if_pos h], fun h => by rw [if_neg h]⟩

--GIVE
def W25 : Trans := GiveT 1 W25b
@[go_sem ↓] theorem W25_eq (v0 v1 : Value) (H : AH) (Bd : Nat) (K : Value → AH → Nat → Prop) : W25 [v0, v1] H Bd K = callW W25b (idS [v0, giveV H v1]) (giveH H v1) Bd K := (rfl)
theorem W25_ok : OK 25 W25 := GiveT_ok 1 W25b_ok

def W62 : Trans := fun args H Bd K => ∃ (t : List Int), args = [lst (t)] ∧ ((sm t ∧ t.length ≤ 1000000 ∧ smallN t) ∧ K (lst (packT t)) H Bd)
@[go_sem ↓] theorem W62_eq (t : List Int) (H : AH) (Bd : Nat) (K : Value → AH → Nat → Prop) : W62 [lst (t)] H Bd K = ((sm t ∧ t.length ≤ 1000000 ∧ smallN t) ∧ K (lst (packT t)) H Bd) := by
  refine propext ⟨fun h => ?_, fun h => ⟨_, rfl, h⟩⟩
  obtain ⟨t', e, h⟩ := h
  skip
  simp only [List.cons.injEq, Value.agg.injEq, toArr_inj, Value.int.injEq, Value.bool.injEq, Value.string.injEq, Value.slice.injEq, Value.func.injEq, Value.pointer.injEq, Option.some.injEq, Addr.mk.injEq, lst_inj, true_and, and_true] at e
  obtain rfl := e
  exact h
set_option maxHeartbeats 2000000 in
theorem W62_ok : OK 62 W62 := by
  rintro args H Bd K ⟨t, rfl, hpre, hK⟩
  refine fn_pure pok (Env.base _) [] _ hK Tryz.func62 rfl (rs := [.tmp 2]) rfl Tryz.ntmps62 (by simp) Tryz.call62 (by kernel_rfl) (fun ha hb => lst_nb _ _) (fun hb ha => ?_)
  obtain ⟨h1, h2, h3⟩ := hpre
  simp (maxSteps := 2000000) (disch := first | assumption | (refine asm_intro ?_; assumption) | exact Nat.le_add_right _ _ | exact Nat.le_refl _ | omega | (simp (disch := first | exact Nat.le_add_right _ _ | omega) only [Le_upd hb, Le_app hb, Le_rfl, free_T hb, free_upd]; done) | fail) only [go_sem, push_cast, and_pos, Le_updF, Le_upd hb, free_T hb]
  refine tr_acc (α := UInt8) (H0 := H) (B0 := Bd) (n0 := Bd) (t.length) (fun i => packT (t.take i)) (fun i out => [(3, out), (7, lst t), (8, .int .i64 t.length), (9, .int .i64 i)]) (Nat.le_refl 1) ⟨by omega, by omega⟩ (by simp only [go_sem, push_cast, and_pos, Le_updF, List.take_zero, packT_nil]) (by simp (disch := first | assumption | omega) only [go_sem, push_cast, and_pos, Le_updF, flat_nil, List.take_zero, packT_nil]) ?_
  intro i ni ci Bi hii hci hni hmi hBi hbi
  refine vq_conv pok (E := (Env.base _)) (PL := []) (by kernel_rfl) ?_
  have hzi : (ci = 0) = False := eq_false (by omega)
  rcases Nat.lt_or_ge i (t.length) with hlti | hgei
  · have e1 : t[i]? = some t[i] := List.getElem?_eq_getElem hlti
    have hst : packT (t.take (i + 1)) = packT (t.take i) ++ [packN t[i]] := packT_take hlti
    have hl3 : (packT (t.take i)).length = i := by simp [packT]; omega
    have hr := h3 _ (List.getElem_mem hlti)
    by_cases hn : t[i] < 0
    · have hp := packN_neg hr.1 hn
      have hq : (31 - t[i]) % 256 = ((packN t[i]).toNat : Int) := by omega
      simp (maxSteps := 2000000) (disch := first | assumption | (refine asm_intro ?_; assumption) | exact Nat.le_add_right _ _ | exact Nat.le_refl _ | omega | (simp (disch := first | exact Nat.le_add_right _ _ | omega) only [Le_upd hb, Le_app hb, Le_rfl, free_T hb, free_upd]; done) | fail) only [go_sem, push_cast, and_pos, Le_updF, Le_upd hb, free_T hb, e1, hq, hn, hzi, hst, flat_append, flat_one]
      exact acc_end (by omega) (by omega) (by simp) rfl (by simp (disch := first | assumption | omega | (simp (disch := omega) only [free_upd, free_T hb]; done)) only [Le_upd2, Le_updF, Le_rfl, free_upd, free_T hb])
    · have hp := packN_pos (by omega) hr.2
      have hq : (t[i] + 1) % 256 = ((packN t[i]).toNat : Int) := by omega
      simp (maxSteps := 2000000) (disch := first | assumption | (refine asm_intro ?_; assumption) | exact Nat.le_add_right _ _ | exact Nat.le_refl _ | omega | (simp (disch := first | exact Nat.le_add_right _ _ | omega) only [Le_upd hb, Le_app hb, Le_rfl, free_T hb, free_upd]; done) | fail) only [go_sem, push_cast, and_pos, Le_updF, Le_upd hb, free_T hb, e1, hq, hn, hzi, hst, flat_append, flat_one]
      exact acc_end (by omega) (by omega) (by simp) rfl (by simp (disch := first | assumption | omega | (simp (disch := omega) only [free_upd, free_T hb]; done)) only [Le_upd2, Le_updF, Le_rfl, free_upd, free_T hb])
  · simp (maxSteps := 2000000) (disch := first | assumption | (refine asm_intro ?_; assumption) | exact Nat.le_add_right _ _ | exact Nat.le_refl _ | omega | (simp (disch := first | exact Nat.le_add_right _ _ | omega) only [Le_upd hb, Le_app hb, Le_rfl, free_T hb, free_upd]; done) | fail) only [go_sem, push_cast, and_pos, Le_updF, Le_upd hb, free_T hb]
    refine Tr.fin2 3 (by simp (disch := first | assumption | omega) only [free_upd, free_T hb]) (by simp only [go_sem, push_cast, and_pos, Le_updF]; rfl) rfl ?_
    refine vq_conv pok (E := (Env.base _)) (PL := []) (by kernel_rfl) ?_
    rw [List.take_of_length_le hgei]
    simp (maxSteps := 2000000) (disch := first | assumption | (refine asm_intro ?_; assumption) | exact Nat.le_add_right _ _ | exact Nat.le_refl _ | omega | (simp (disch := first | exact Nat.le_add_right _ _ | omega) only [Le_upd hb, Le_app hb, Le_rfl, free_T hb, free_upd]; done) | fail) only [go_sem, push_cast, and_pos, Le_updF, Le_upd hb, free_T hb]

def W26 : Trans := fun args H Bd K => ∃ (x : GRecord) (y : GRecord), args = [.agg (enc (x)).toArray, .agg (enc (y)).toArray] ∧ (((sm x ∧ sm y) ∧ x.term.length ≤ 1000000 ∧ y.term.length ≤ 1000000 ∧ smallN x.term ∧ smallN y.term) ∧ K (.int .i64 (Lib.compareBytes (packT x.term) (packT y.term))) H Bd)
@[go_sem ↓] theorem W26_eq (x_term : List Int) (x_value : Int) (y_term : List Int) (y_value : Int) (H : AH) (Bd : Nat) (K : Value → AH → Nat → Prop) : W26 [.agg #[lst (x_term), .int .i64 (x_value)], .agg #[lst (y_term), .int .i64 (y_value)]] H Bd K = (((sm (GRecord.mk x_term x_value) ∧ sm (GRecord.mk y_term y_value)) ∧ (GRecord.mk x_term x_value).term.length ≤ 1000000 ∧ (GRecord.mk y_term y_value).term.length ≤ 1000000 ∧ smallN (GRecord.mk x_term x_value).term ∧ smallN (GRecord.mk y_term y_value).term) ∧ K (.int .i64 (Lib.compareBytes (packT (GRecord.mk x_term x_value).term) (packT (GRecord.mk y_term y_value).term))) H Bd) := by
  refine propext ⟨fun h => ?_, fun h => ⟨_, _, rfl, h⟩⟩
  obtain ⟨x', y', e, h⟩ := h
  obtain ⟨xterm', xvalue'⟩ := x'
  obtain ⟨yterm', yvalue'⟩ := y'
  simp only [enc_GRecord, List.cons.injEq, Value.agg.injEq, toArr_inj, Value.int.injEq, Value.bool.injEq, Value.string.injEq, Value.slice.injEq, Value.func.injEq, Value.pointer.injEq, Option.some.injEq, Addr.mk.injEq, lst_inj, true_and, and_true] at e
  obtain ⟨⟨rfl, rfl⟩, ⟨rfl, rfl⟩⟩ := e
  exact h
theorem W26_ok : OK 26 W26 := by
  rintro args H Bd K ⟨x, y, rfl, hpre, hK⟩
  refine fn_pure pok (((Env.base _).add 62 _ W62_ok).add 61 _ W61_ok) [(1, [0,1,3,4,2,5,6,7], [⟨0, [], []⟩, ⟨1, [], []⟩, ⟨3, [], []⟩, ⟨4, [], []⟩, ⟨2, [], [4]⟩, ⟨5, [], []⟩, ⟨6, [], []⟩, ⟨7, [], []⟩], .nil)] _ hK Tryz.func26 rfl (rs := [.tmp 4]) rfl Tryz.ntmps26 (by simp) Tryz.call26 (by kernel_rfl) (fun ha hb => .int _ _) (fun hb ha => ?_)
  obtain ⟨⟨h1, h2⟩, h3, h4, h5, h6⟩ := hpre
  simp only [sm_GRecord] at h1 h2
  simp (maxSteps := 2000000) (disch := first | assumption | (refine asm_intro ?_; assumption) | exact Nat.le_add_right _ _ | exact Nat.le_refl _ | omega | (simp (disch := first | exact Nat.le_add_right _ _ | omega) only [Le_upd hb, Le_app hb, Le_rfl, free_T hb, free_upd]; done) | fail) only [go_sem, push_cast, and_pos, Le_updF, Le_upd hb, free_T hb, h1, h2, h5, h6]

def W7 : Trans := fun args H Bd K => ∃ (x : GBook), args = [.agg (enc (x)).toArray] ∧ ((sm x ∧ rg x) ∧ K (.int .i64 (bookF x)) H Bd)
@[go_sem ↓] theorem W7_eq (x_symbols_symbols : List GSymbol) (x_version : Int) (x_theory_order : List Int) (x_theory_equations : List GEquation) (x_theory_rules : List GEquation) (x_moving : Bool) (x_next_order : List Int) (x_next_equations : List GEquation) (x_next_rules : List GEquation) (x_cursor : List UInt8) (x_records : List GRecord) (H : AH) (Bd : Nat) (K : Value → AH → Nat → Prop) : W7 [.agg #[lst (x_symbols_symbols), .int .i64 (x_version), lst (x_theory_order), lst (x_theory_equations), lst (x_theory_rules), .bool (x_moving), lst (x_next_order), lst (x_next_equations), lst (x_next_rules), lst (x_cursor), lst (x_records)]] H Bd K = ((sm (GBook.mk (GSignature.mk x_symbols_symbols) x_version (GTheory.mk x_theory_order x_theory_equations x_theory_rules) x_moving (GTheory.mk x_next_order x_next_equations x_next_rules) x_cursor x_records) ∧ rg (GBook.mk (GSignature.mk x_symbols_symbols) x_version (GTheory.mk x_theory_order x_theory_equations x_theory_rules) x_moving (GTheory.mk x_next_order x_next_equations x_next_rules) x_cursor x_records)) ∧ K (.int .i64 (bookF (GBook.mk (GSignature.mk x_symbols_symbols) x_version (GTheory.mk x_theory_order x_theory_equations x_theory_rules) x_moving (GTheory.mk x_next_order x_next_equations x_next_rules) x_cursor x_records))) H Bd) := by
  refine propext ⟨fun h => ?_, fun h => ⟨_, rfl, h⟩⟩
  obtain ⟨x', e, h⟩ := h
  obtain ⟨⟨xsymbolssymbols'⟩, xversion', ⟨xtheoryorder', xtheoryequations', xtheoryrules'⟩, xmoving', ⟨xnext_order', xnext_equations', xnext_rules'⟩, xcursor', xrecords'⟩ := x'
  simp only [enc_GBook, enc_GSignature, enc_GTheory, List.cons.injEq, Value.agg.injEq, toArr_inj, Value.int.injEq, Value.bool.injEq, Value.string.injEq, Value.slice.injEq, Value.func.injEq, Value.pointer.injEq, Option.some.injEq, Addr.mk.injEq, lst_inj, true_and, and_true] at e
  obtain ⟨rfl, rfl, rfl, rfl, rfl, rfl, rfl, rfl, rfl, rfl, rfl⟩ := e
  exact h
set_option maxHeartbeats 2000000 in
theorem W7_ok : OK 7 W7 := by
  rintro args H Bd K ⟨x, rfl, hpre, hK⟩
  refine fn_pure pok (((((((Env.base _).add 21 _ W21_ok).add 22 _ W22_ok).add 23 _ W23_ok).add 24 _ W24_ok).add 25 _ W25_ok).add 26 _ W26_ok) [(13, [], [], (.k 6 (.grp false 43 47 4 [44, 45, 46, 47] 48 none (.k 4 .nil) .nil))), (15, [], [], (.k 5 (.grp false 53 57 4 [54, 55, 56, 57] 58 none (.k 4 .nil) .nil))), (31, [0,1,2,3,4,5,6,7,8,9,10,11,12], [⟨0, [], []⟩, ⟨1, [], []⟩, ⟨2, [], []⟩, ⟨3, [], []⟩, ⟨4, [], []⟩, ⟨5, [], []⟩, ⟨6, [], []⟩, ⟨7, [], []⟩, ⟨8, [], []⟩, ⟨9, [], []⟩, ⟨10, [], []⟩, ⟨11, [], []⟩, ⟨12, [], []⟩], .nil)] _ hK Tryz.func7 rfl (rs := [.tmp 2]) rfl Tryz.ntmps7 (by simp) Tryz.call7 (by kernel_rfl) (fun ha hb => .int _ _) (fun hb ha => ?_)
  obtain ⟨h1, h2⟩ := hpre
  have hss : sm x.symbols := h1.1
  simp only [sm_GBook] at h1
  have h3 : rg x.theory := h2.2.2.1
  have h4 : rg x.next_ := h2.2.2.2.2.1
  have h5 : rg x.records := h2.2.2.2.2.2.2
  have hn := h1.2.2.2.2.1
  have hrs := h1.2.2.2.2.2.2
  simp only [sm_GTheory] at hn
  have q1 := sm_len hn.1
  have q2 := sm_len hn.2.1
  have q3 := sm_len hn.2.2
  have q4 := sm_len h1.2.2.2.2.2.1
  have q5 := sm_len hrs
  simp (maxSteps := 2000000) (disch := first | assumption | (refine asm_intro ?_; assumption) | exact Nat.le_add_right _ _ | exact Nat.le_refl _ | omega | (simp (disch := first | exact Nat.le_add_right _ _ | omega) only [Le_upd hb, Le_app hb, Le_rfl, free_T hb, free_upd]; done) | fail) only [go_sem, push_cast, and_pos, Le_updF, Le_upd hb, free_T hb, h1, hss, h3, h4, h5]
  have hF : sigF x.symbols = 0 → ∀ t, thF x.symbols t = thG x.symbols t := fun h t => by unfold thF; rw [if_neg (by simp [h])]
  refine ⟨fun a0 => ⟨fun b1 => ?_, fun b1 b2 => ?_⟩, fun a0 => by unfold bookF; rw [if_pos a0]⟩
  · unfold bookF; rw [if_neg (by simp [a0]), if_pos b1]
  have hs := sig_ok a0
  simp only [hF a0]
  have hb1 : ¬ ¬ (1 ≤ x.version ∧ x.version ≤ 60000) := fun h => h ⟨b1, b2⟩
  refine ⟨fun b3 => ⟨fun b4 => ⟨fun b5 => ⟨fun b6 => ?_, fun b6 b7 => ?_⟩, fun b5 => ?_⟩, fun b4 => ⟨fun b5 => ?_, fun b5 b6 => ⟨fun b7 => ?_, fun b7 => ?_⟩⟩⟩, fun b3 => ?_⟩
  · unfold bookF; rw [if_neg (by simp [a0]), if_neg hb1, if_neg (by simp [b3]), if_neg (by simp [b5]), if_neg (by simp [b4]), if_pos (by omega)]
  · have hz : bookF x = bookRec x.symbols x.records := by unfold bookF; rw [if_neg (by simp [a0]), if_neg hb1, if_neg (by simp [b3]), if_neg (by simp [b5]), if_neg (by simp [b4]), if_neg (by omega)]
    refine tr_for (fun i => ∀ j, j < i → ∀ r, x.records[j]? = some r → okG x.symbols r) (x.records.length) (fun i => [(1, .pointer (some ⟨Bd, 0, none⟩)), (60, lst x.records), (61, .int .i64 x.records.length), (62, .int .i64 i)]) (fun j hj => absurd hj (Nat.not_lt_zero _)) (by simp only [go_sem, push_cast, and_pos, Le_updF]) ?_
    intro i Bi hIi hii hBi
    refine vq_conv pok (E := (((((((Env.base _).add 21 _ W21_ok).add 22 _ W22_ok).add 23 _ W23_ok).add 24 _ W24_ok).add 25 _ W25_ok).add 26 _ W26_ok)) (PL := [(13, [], [], (.k 6 (.grp false 43 47 4 [44, 45, 46, 47] 48 none (.k 4 .nil) .nil))), (15, [], [], (.k 5 (.grp false 53 57 4 [54, 55, 56, 57] 58 none (.k 4 .nil) .nil))), (31, [0,1,2,3,4,5,6,7,8,9,10,11,12], [⟨0, [], []⟩, ⟨1, [], []⟩, ⟨2, [], []⟩, ⟨3, [], []⟩, ⟨4, [], []⟩, ⟨5, [], []⟩, ⟨6, [], []⟩, ⟨7, [], []⟩, ⟨8, [], []⟩, ⟨9, [], []⟩, ⟨10, [], []⟩, ⟨11, [], []⟩, ⟨12, [], []⟩], .nil)]) (by kernel_rfl) ?_
    rcases Nat.lt_or_ge i (x.records.length) with hlti | hgei
    · have e1 : x.records[i]? = some x.records[i] := List.getElem?_eq_getElem hlti
      have g5 := sm_mem hrs (List.getElem_mem hlti)
      simp only [sm_GRecord] at g5
      have g6 := h5 _ (List.getElem_mem hlti)
      have g7 := g5.1
      have g8 : rg x.records[i].term := g6.1
      have g9 : R64 x.records[i].value := g6.2
      have g10 := gfault_one a0 x.records[i].term
      have g11 : sm [x.records[i].term] := sm_one g7
      have g12 : rg [x.records[i].term] := fun t ht => by rw [List.mem_singleton.1 ht]; exact g8
      simp (maxSteps := 2000000) (disch := first | assumption | (refine asm_intro ?_; assumption) | exact Nat.le_add_right _ _ | exact Nat.le_refl _ | omega | (simp (disch := first | exact Nat.le_add_right _ _ | omega) only [Le_upd hb, Le_app hb, Le_rfl, free_T hb, free_upd]; done) | fail) only [go_sem, push_cast, and_pos, Le_updF, Le_upd hb, free_T hb, e1, hss, g7, g8, g10, g11, g12]
      have hhit : recOne x.symbols x.records[i] ≠ 0 → bookF x = recOne x.symbols x.records[i] := fun h => by
        have hf := firstF_hit (f := recOne x.symbols) e1 hIi h
        rw [hz]
        unfold bookRec
        rw [hf, if_pos h]
      refine ⟨fun a1 => ⟨fun a2 => ?_, fun a2 => ⟨fun a3 => ?_, fun a3 a4 j hj r hr => ?_⟩⟩, fun a1 => ?_⟩
      · have hr : recOne x.symbols x.records[i] = 2 := by unfold recOne; rw [if_neg (by simp [a1]), if_pos (by omega)]
        rw [hhit (by omega), hr]
      · have hr : recOne x.symbols x.records[i] = 3 := by unfold recOne; rw [if_neg (by simp [a1]), if_neg (by omega), if_neg a3]
        rw [hhit (by omega), hr]
      · by_cases e : j = i
        · subst e; rw [e1] at hr; cases hr
          unfold okG recOne; rw [if_neg (by simp [a1]), if_neg (by omega), if_pos ⟨a3, a4⟩]
        · exact hIi j (by omega) r hr
      · have hr : recOne x.symbols x.records[i] = groundG x.symbols x.records[i].term := by unfold recOne; rw [if_pos a1]
        rw [hhit (by omega), hr]
    · have hall : ∀ r ∈ x.records, okG x.symbols r := fun r hr => by
        obtain ⟨j, hj, rfl⟩ := List.getElem_of_mem hr
        exact hIi j (by omega) _ (List.getElem?_eq_getElem hj)
      have hz2 : bookF x = if rising x.records = true then 0 else 1 := by
        rw [hz]; unfold bookRec; rw [if_neg (by rw [firstF_all hall]; simp)]
      simp (maxSteps := 2000000) (disch := first | assumption | (refine asm_intro ?_; assumption) | exact Nat.le_add_right _ _ | exact Nat.le_refl _ | omega | (simp (disch := first | exact Nat.le_add_right _ _ | omega) only [Le_upd hb, Le_app hb, Le_rfl, free_T hb, free_upd]; done) | fail) only [go_sem, push_cast, and_pos, Le_updF, Le_upd hb, free_T hb]
      refine vq_conv pok (E := (((((((Env.base _).add 21 _ W21_ok).add 22 _ W22_ok).add 23 _ W23_ok).add 24 _ W24_ok).add 25 _ W25_ok).add 26 _ W26_ok)) (PL := [(13, [], [], (.k 6 (.grp false 43 47 4 [44, 45, 46, 47] 48 none (.k 4 .nil) .nil))), (15, [], [], (.k 5 (.grp false 53 57 4 [54, 55, 56, 57] 58 none (.k 4 .nil) .nil))), (31, [0,1,2,3,4,5,6,7,8,9,10,11,12], [⟨0, [], []⟩, ⟨1, [], []⟩, ⟨2, [], []⟩, ⟨3, [], []⟩, ⟨4, [], []⟩, ⟨5, [], []⟩, ⟨6, [], []⟩, ⟨7, [], []⟩, ⟨8, [], []⟩, ⟨9, [], []⟩, ⟨10, [], []⟩, ⟨11, [], []⟩, ⟨12, [], []⟩], .nil)]) (by kernel_rfl) ?_
      simp (maxSteps := 2000000) (disch := first | assumption | (refine asm_intro ?_; assumption) | exact Nat.le_add_right _ _ | exact Nat.le_refl _ | omega | (simp (disch := first | exact Nat.le_add_right _ _ | omega) only [Le_upd hb, Le_app hb, Le_rfl, free_T hb, free_upd]; done) | fail) only [go_sem, push_cast, and_pos, Le_updF, Le_upd hb, free_T hb]
      refine tr_for (fun k => ∀ j, j < k → ∀ r u, x.records[j]? = some r → x.records[j + 1]? = some u → Lib.compareBytes (packT r.term) (packT u.term) < 0) (x.records.length - 1) (fun k => [(1, .pointer (some ⟨Bd, 0, none⟩)), (9, .int .i64 ((k : Int) + 1))]) (by simp) (by simp only [go_sem, push_cast, and_pos, Le_updF]) ?_
      intro k Bk hIk hik hBk
      refine vq_conv pok (E := (((((((Env.base _).add 21 _ W21_ok).add 22 _ W22_ok).add 23 _ W23_ok).add 24 _ W24_ok).add 25 _ W25_ok).add 26 _ W26_ok)) (PL := [(13, [], [], (.k 6 (.grp false 43 47 4 [44, 45, 46, 47] 48 none (.k 4 .nil) .nil))), (15, [], [], (.k 5 (.grp false 53 57 4 [54, 55, 56, 57] 58 none (.k 4 .nil) .nil))), (31, [0,1,2,3,4,5,6,7,8,9,10,11,12], [⟨0, [], []⟩, ⟨1, [], []⟩, ⟨2, [], []⟩, ⟨3, [], []⟩, ⟨4, [], []⟩, ⟨5, [], []⟩, ⟨6, [], []⟩, ⟨7, [], []⟩, ⟨8, [], []⟩, ⟨9, [], []⟩, ⟨10, [], []⟩, ⟨11, [], []⟩, ⟨12, [], []⟩], .nil)]) (by kernel_rfl) ?_
      rcases Nat.lt_or_ge k (x.records.length - 1) with hltk | hgek
      · have hok1 := okG_term (hall _ (List.getElem_mem (show k < x.records.length by omega)))
        have hok2 := okG_term (hall _ (List.getElem_mem (show k + 1 < x.records.length by omega)))
        have e1 : x.records[k]? = some (x.records[k]'(by omega)) := List.getElem?_eq_getElem _
        have e2 : x.records[k + 1]? = some (x.records[k + 1]'(by omega)) := List.getElem?_eq_getElem _
        have g3 := (sm_mem hrs (List.getElem_mem (show k < x.records.length by omega)))
        have g4 := (sm_mem hrs (List.getElem_mem (show k + 1 < x.records.length by omega)))
        have g5 : smallN x.records[k].term := nodes_small hs hok1.1.nodes
        have g6 : smallN x.records[k + 1].term := nodes_small hs hok2.1.nodes
        have g7 := hok1.2.1
        have g8 := hok2.2.1
        have c1 : ((k : Int) + 1 - 1).toNat = k := by omega
        have c2 : ((k : Int) + 1).toNat = k + 1 := by omega
        simp (maxSteps := 2000000) (disch := first | assumption | (refine asm_intro ?_; assumption) | exact Nat.le_add_right _ _ | exact Nat.le_refl _ | omega | (simp (disch := first | exact Nat.le_add_right _ _ | omega) only [Le_upd hb, Le_app hb, Le_rfl, free_T hb, free_upd]; done) | fail) only [go_sem, push_cast, and_pos, Le_updF, Le_upd hb, free_T hb, e1, e2, c1, c2, g3, g4, g5, g6]
        refine ⟨fun h => ?_, fun h j hj r u j1 j2 => ?_⟩
        · rw [hz2, if_neg (by rw [rising_no e1 e2 (by omega)]; simp)]
        · by_cases e : j = k
          · subst e; rw [e1] at j1; rw [e2] at j2; cases j1; cases j2; omega
          · exact hIk j (by omega) r u j1 j2
      · simp (maxSteps := 2000000) (disch := first | assumption | (refine asm_intro ?_; assumption) | exact Nat.le_add_right _ _ | exact Nat.le_refl _ | omega | (simp (disch := first | exact Nat.le_add_right _ _ | omega) only [Le_upd hb, Le_app hb, Le_rfl, free_T hb, free_upd]; done) | fail) only [go_sem, push_cast, and_pos, Le_updF, Le_upd hb, free_T hb]
        refine vq_conv pok (E := (((((((Env.base _).add 21 _ W21_ok).add 22 _ W22_ok).add 23 _ W23_ok).add 24 _ W24_ok).add 25 _ W25_ok).add 26 _ W26_ok)) (PL := [(13, [], [], (.k 6 (.grp false 43 47 4 [44, 45, 46, 47] 48 none (.k 4 .nil) .nil))), (15, [], [], (.k 5 (.grp false 53 57 4 [54, 55, 56, 57] 58 none (.k 4 .nil) .nil))), (31, [0,1,2,3,4,5,6,7,8,9,10,11,12], [⟨0, [], []⟩, ⟨1, [], []⟩, ⟨2, [], []⟩, ⟨3, [], []⟩, ⟨4, [], []⟩, ⟨5, [], []⟩, ⟨6, [], []⟩, ⟨7, [], []⟩, ⟨8, [], []⟩, ⟨9, [], []⟩, ⟨10, [], []⟩, ⟨11, [], []⟩, ⟨12, [], []⟩], .nil)]) (by kernel_rfl) ?_
        simp (maxSteps := 2000000) (disch := first | assumption | (refine asm_intro ?_; assumption) | exact Nat.le_add_right _ _ | exact Nat.le_refl _ | omega | (simp (disch := first | exact Nat.le_add_right _ _ | omega) only [Le_upd hb, Le_app hb, Le_rfl, free_T hb, free_upd]; done) | fail) only [go_sem, push_cast, and_pos, Le_updF, Le_upd hb, free_T hb]
        rw [hz2, if_pos (rising_yes fun j r u j1 j2 => hIk j (by have := (List.getElem?_eq_some_iff.1 j2).1; omega) r u j1 j2)]
  · unfold bookF; rw [if_neg (by simp [a0]), if_neg hb1, if_neg (by simp [b3]), if_pos ⟨b4, b5⟩]
  · have hne : 0 < x.next_.order.length + x.next_.equations.length + x.next_.rules.length + x.cursor.length := by
      rcases b5 with b5 | b5
      · have : ¬ (x.next_.order = [] ∧ x.next_.equations = [] ∧ x.next_.rules = []) := fun hh => b5 (by obtain ⟨c1, c2, c3⟩ := hh; cases hx : x.next_; simp_all)
        rcases Nat.eq_zero_or_pos (x.next_.order.length + x.next_.equations.length + x.next_.rules.length) with z | z
        · exact absurd ⟨List.length_eq_zero_iff.1 (by omega), List.length_eq_zero_iff.1 (by omega), List.length_eq_zero_iff.1 (by omega)⟩ this
        · omega
      · omega
    unfold bookF; rw [if_neg (by simp [a0]), if_neg hb1, if_neg (by simp [b3]), if_neg (by simp [b4]), if_pos ⟨by simpa using b4, hne⟩]
  · unfold bookF; rw [if_neg (by simp [a0]), if_neg hb1, if_neg (by simp [b3]), if_neg (by simp [b4]), if_neg (fun hh => by have h9 := hh.2; rw [b5] at h9; simp only [List.length_nil] at h9; omega), if_pos (by omega)]
  · have hz : bookF x = bookRec x.symbols x.records := by unfold bookF; rw [if_neg (by simp [a0]), if_neg hb1, if_neg (by simp [b3]), if_neg (by simp [b4]), if_neg (fun hh => by have h9 := hh.2; rw [b5] at h9; simp only [List.length_nil] at h9; omega), if_neg (by omega)]
    refine tr_for (fun i => ∀ j, j < i → ∀ r, x.records[j]? = some r → okG x.symbols r) (x.records.length) (fun i => [(1, .pointer (some ⟨Bd, 0, none⟩)), (60, lst x.records), (61, .int .i64 x.records.length), (62, .int .i64 i)]) (fun j hj => absurd hj (Nat.not_lt_zero _)) (by simp only [go_sem, push_cast, and_pos, Le_updF]) ?_
    intro i Bi hIi hii hBi
    refine vq_conv pok (E := (((((((Env.base _).add 21 _ W21_ok).add 22 _ W22_ok).add 23 _ W23_ok).add 24 _ W24_ok).add 25 _ W25_ok).add 26 _ W26_ok)) (PL := [(13, [], [], (.k 6 (.grp false 43 47 4 [44, 45, 46, 47] 48 none (.k 4 .nil) .nil))), (15, [], [], (.k 5 (.grp false 53 57 4 [54, 55, 56, 57] 58 none (.k 4 .nil) .nil))), (31, [0,1,2,3,4,5,6,7,8,9,10,11,12], [⟨0, [], []⟩, ⟨1, [], []⟩, ⟨2, [], []⟩, ⟨3, [], []⟩, ⟨4, [], []⟩, ⟨5, [], []⟩, ⟨6, [], []⟩, ⟨7, [], []⟩, ⟨8, [], []⟩, ⟨9, [], []⟩, ⟨10, [], []⟩, ⟨11, [], []⟩, ⟨12, [], []⟩], .nil)]) (by kernel_rfl) ?_
    rcases Nat.lt_or_ge i (x.records.length) with hlti | hgei
    · have e1 : x.records[i]? = some x.records[i] := List.getElem?_eq_getElem hlti
      have g5 := sm_mem hrs (List.getElem_mem hlti)
      simp only [sm_GRecord] at g5
      have g6 := h5 _ (List.getElem_mem hlti)
      have g7 := g5.1
      have g8 : rg x.records[i].term := g6.1
      have g9 : R64 x.records[i].value := g6.2
      have g10 := gfault_one a0 x.records[i].term
      have g11 : sm [x.records[i].term] := sm_one g7
      have g12 : rg [x.records[i].term] := fun t ht => by rw [List.mem_singleton.1 ht]; exact g8
      simp (maxSteps := 2000000) (disch := first | assumption | (refine asm_intro ?_; assumption) | exact Nat.le_add_right _ _ | exact Nat.le_refl _ | omega | (simp (disch := first | exact Nat.le_add_right _ _ | omega) only [Le_upd hb, Le_app hb, Le_rfl, free_T hb, free_upd]; done) | fail) only [go_sem, push_cast, and_pos, Le_updF, Le_upd hb, free_T hb, e1, hss, g7, g8, g10, g11, g12]
      have hhit : recOne x.symbols x.records[i] ≠ 0 → bookF x = recOne x.symbols x.records[i] := fun h => by
        have hf := firstF_hit (f := recOne x.symbols) e1 hIi h
        rw [hz]
        unfold bookRec
        rw [hf, if_pos h]
      refine ⟨fun a1 => ⟨fun a2 => ?_, fun a2 => ⟨fun a3 => ?_, fun a3 a4 j hj r hr => ?_⟩⟩, fun a1 => ?_⟩
      · have hr : recOne x.symbols x.records[i] = 2 := by unfold recOne; rw [if_neg (by simp [a1]), if_pos (by omega)]
        rw [hhit (by omega), hr]
      · have hr : recOne x.symbols x.records[i] = 3 := by unfold recOne; rw [if_neg (by simp [a1]), if_neg (by omega), if_neg a3]
        rw [hhit (by omega), hr]
      · by_cases e : j = i
        · subst e; rw [e1] at hr; cases hr
          unfold okG recOne; rw [if_neg (by simp [a1]), if_neg (by omega), if_pos ⟨a3, a4⟩]
        · exact hIi j (by omega) r hr
      · have hr : recOne x.symbols x.records[i] = groundG x.symbols x.records[i].term := by unfold recOne; rw [if_pos a1]
        rw [hhit (by omega), hr]
    · have hall : ∀ r ∈ x.records, okG x.symbols r := fun r hr => by
        obtain ⟨j, hj, rfl⟩ := List.getElem_of_mem hr
        exact hIi j (by omega) _ (List.getElem?_eq_getElem hj)
      have hz2 : bookF x = if rising x.records = true then 0 else 1 := by
        rw [hz]; unfold bookRec; rw [if_neg (by rw [firstF_all hall]; simp)]
      simp (maxSteps := 2000000) (disch := first | assumption | (refine asm_intro ?_; assumption) | exact Nat.le_add_right _ _ | exact Nat.le_refl _ | omega | (simp (disch := first | exact Nat.le_add_right _ _ | omega) only [Le_upd hb, Le_app hb, Le_rfl, free_T hb, free_upd]; done) | fail) only [go_sem, push_cast, and_pos, Le_updF, Le_upd hb, free_T hb]
      refine vq_conv pok (E := (((((((Env.base _).add 21 _ W21_ok).add 22 _ W22_ok).add 23 _ W23_ok).add 24 _ W24_ok).add 25 _ W25_ok).add 26 _ W26_ok)) (PL := [(13, [], [], (.k 6 (.grp false 43 47 4 [44, 45, 46, 47] 48 none (.k 4 .nil) .nil))), (15, [], [], (.k 5 (.grp false 53 57 4 [54, 55, 56, 57] 58 none (.k 4 .nil) .nil))), (31, [0,1,2,3,4,5,6,7,8,9,10,11,12], [⟨0, [], []⟩, ⟨1, [], []⟩, ⟨2, [], []⟩, ⟨3, [], []⟩, ⟨4, [], []⟩, ⟨5, [], []⟩, ⟨6, [], []⟩, ⟨7, [], []⟩, ⟨8, [], []⟩, ⟨9, [], []⟩, ⟨10, [], []⟩, ⟨11, [], []⟩, ⟨12, [], []⟩], .nil)]) (by kernel_rfl) ?_
      simp (maxSteps := 2000000) (disch := first | assumption | (refine asm_intro ?_; assumption) | exact Nat.le_add_right _ _ | exact Nat.le_refl _ | omega | (simp (disch := first | exact Nat.le_add_right _ _ | omega) only [Le_upd hb, Le_app hb, Le_rfl, free_T hb, free_upd]; done) | fail) only [go_sem, push_cast, and_pos, Le_updF, Le_upd hb, free_T hb]
      refine tr_for (fun k => ∀ j, j < k → ∀ r u, x.records[j]? = some r → x.records[j + 1]? = some u → Lib.compareBytes (packT r.term) (packT u.term) < 0) (x.records.length - 1) (fun k => [(1, .pointer (some ⟨Bd, 0, none⟩)), (9, .int .i64 ((k : Int) + 1))]) (by simp) (by simp only [go_sem, push_cast, and_pos, Le_updF]) ?_
      intro k Bk hIk hik hBk
      refine vq_conv pok (E := (((((((Env.base _).add 21 _ W21_ok).add 22 _ W22_ok).add 23 _ W23_ok).add 24 _ W24_ok).add 25 _ W25_ok).add 26 _ W26_ok)) (PL := [(13, [], [], (.k 6 (.grp false 43 47 4 [44, 45, 46, 47] 48 none (.k 4 .nil) .nil))), (15, [], [], (.k 5 (.grp false 53 57 4 [54, 55, 56, 57] 58 none (.k 4 .nil) .nil))), (31, [0,1,2,3,4,5,6,7,8,9,10,11,12], [⟨0, [], []⟩, ⟨1, [], []⟩, ⟨2, [], []⟩, ⟨3, [], []⟩, ⟨4, [], []⟩, ⟨5, [], []⟩, ⟨6, [], []⟩, ⟨7, [], []⟩, ⟨8, [], []⟩, ⟨9, [], []⟩, ⟨10, [], []⟩, ⟨11, [], []⟩, ⟨12, [], []⟩], .nil)]) (by kernel_rfl) ?_
      rcases Nat.lt_or_ge k (x.records.length - 1) with hltk | hgek
      · have hok1 := okG_term (hall _ (List.getElem_mem (show k < x.records.length by omega)))
        have hok2 := okG_term (hall _ (List.getElem_mem (show k + 1 < x.records.length by omega)))
        have e1 : x.records[k]? = some (x.records[k]'(by omega)) := List.getElem?_eq_getElem _
        have e2 : x.records[k + 1]? = some (x.records[k + 1]'(by omega)) := List.getElem?_eq_getElem _
        have g3 := (sm_mem hrs (List.getElem_mem (show k < x.records.length by omega)))
        have g4 := (sm_mem hrs (List.getElem_mem (show k + 1 < x.records.length by omega)))
        have g5 : smallN x.records[k].term := nodes_small hs hok1.1.nodes
        have g6 : smallN x.records[k + 1].term := nodes_small hs hok2.1.nodes
        have g7 := hok1.2.1
        have g8 := hok2.2.1
        have c1 : ((k : Int) + 1 - 1).toNat = k := by omega
        have c2 : ((k : Int) + 1).toNat = k + 1 := by omega
        simp (maxSteps := 2000000) (disch := first | assumption | (refine asm_intro ?_; assumption) | exact Nat.le_add_right _ _ | exact Nat.le_refl _ | omega | (simp (disch := first | exact Nat.le_add_right _ _ | omega) only [Le_upd hb, Le_app hb, Le_rfl, free_T hb, free_upd]; done) | fail) only [go_sem, push_cast, and_pos, Le_updF, Le_upd hb, free_T hb, e1, e2, c1, c2, g3, g4, g5, g6]
        refine ⟨fun h => ?_, fun h j hj r u j1 j2 => ?_⟩
        · rw [hz2, if_neg (by rw [rising_no e1 e2 (by omega)]; simp)]
        · by_cases e : j = k
          · subst e; rw [e1] at j1; rw [e2] at j2; cases j1; cases j2; omega
          · exact hIk j (by omega) r u j1 j2
      · simp (maxSteps := 2000000) (disch := first | assumption | (refine asm_intro ?_; assumption) | exact Nat.le_add_right _ _ | exact Nat.le_refl _ | omega | (simp (disch := first | exact Nat.le_add_right _ _ | omega) only [Le_upd hb, Le_app hb, Le_rfl, free_T hb, free_upd]; done) | fail) only [go_sem, push_cast, and_pos, Le_updF, Le_upd hb, free_T hb]
        refine vq_conv pok (E := (((((((Env.base _).add 21 _ W21_ok).add 22 _ W22_ok).add 23 _ W23_ok).add 24 _ W24_ok).add 25 _ W25_ok).add 26 _ W26_ok)) (PL := [(13, [], [], (.k 6 (.grp false 43 47 4 [44, 45, 46, 47] 48 none (.k 4 .nil) .nil))), (15, [], [], (.k 5 (.grp false 53 57 4 [54, 55, 56, 57] 58 none (.k 4 .nil) .nil))), (31, [0,1,2,3,4,5,6,7,8,9,10,11,12], [⟨0, [], []⟩, ⟨1, [], []⟩, ⟨2, [], []⟩, ⟨3, [], []⟩, ⟨4, [], []⟩, ⟨5, [], []⟩, ⟨6, [], []⟩, ⟨7, [], []⟩, ⟨8, [], []⟩, ⟨9, [], []⟩, ⟨10, [], []⟩, ⟨11, [], []⟩, ⟨12, [], []⟩], .nil)]) (by kernel_rfl) ?_
        simp (maxSteps := 2000000) (disch := first | assumption | (refine asm_intro ?_; assumption) | exact Nat.le_add_right _ _ | exact Nat.le_refl _ | omega | (simp (disch := first | exact Nat.le_add_right _ _ | omega) only [Le_upd hb, Le_app hb, Le_rfl, free_T hb, free_upd]; done) | fail) only [go_sem, push_cast, and_pos, Le_updF, Le_upd hb, free_T hb]
        rw [hz2, if_pos (rising_yes fun j r u j1 j2 => hIk j (by have := (List.getElem?_eq_some_iff.1 j2).1; omega) r u j1 j2)]
  · unfold bookF; rw [if_neg (by simp [a0]), if_neg hb1, if_pos b3]

def W99 : Trans := fun args H Bd K => ∃ (x : GSymbol) (y : GSymbol), args = [.agg (enc (x)).toArray, .agg (enc (y)).toArray] ∧ ((sm x) ∧ K (.bool (decide (x = y))) H Bd)
@[go_sem ↓] theorem W99_eq (x_name : ByteArray) (x_arity : Int) (y_name : ByteArray) (y_arity : Int) (H : AH) (Bd : Nat) (K : Value → AH → Nat → Prop) : W99 [.agg #[.string (x_name), .int .i64 (x_arity)], .agg #[.string (y_name), .int .i64 (y_arity)]] H Bd K = ((sm (GSymbol.mk x_name x_arity)) ∧ K (.bool (decide ((GSymbol.mk x_name x_arity) = (GSymbol.mk y_name y_arity)))) H Bd) := by
  refine propext ⟨fun h => ?_, fun h => ⟨_, _, rfl, h⟩⟩
  obtain ⟨x', y', e, h⟩ := h
  obtain ⟨xname', xarity'⟩ := x'
  obtain ⟨yname', yarity'⟩ := y'
  simp only [enc_GSymbol, List.cons.injEq, Value.agg.injEq, toArr_inj, Value.int.injEq, Value.bool.injEq, Value.string.injEq, Value.slice.injEq, Value.func.injEq, Value.pointer.injEq, Option.some.injEq, Addr.mk.injEq, lst_inj, true_and, and_true] at e
  obtain ⟨⟨rfl, rfl⟩, ⟨rfl, rfl⟩⟩ := e
  exact h
theorem W99_ok : OK 99 W99 := by
  rintro args H Bd K ⟨x, y, rfl, hpre, hK⟩
  refine fn_pure pok (Env.base _) [] _ hK Tryz.func99 rfl (rs := [.tmp 4]) rfl Tryz.ntmps99 (by simp) Tryz.call99 (by kernel_rfl) (fun ha hb => .bool _) (fun hb ha => ?_)
  simp only [sm_GSymbol] at hpre
  simp (maxSteps := 2000000) (disch := first | assumption | (refine asm_intro ?_; assumption) | exact Nat.le_add_right _ _ | exact Nat.le_refl _ | omega | (simp (disch := first | exact Nat.le_add_right _ _ | omega) only [Le_upd hb, Le_app hb, Le_rfl, free_T hb, free_upd]; done) | fail) only [go_sem, push_cast, and_pos, Le_updF, Le_upd hb, free_T hb, hpre]
  cases x; cases y
  simp only [Cnp, GSymbol.mk.injEq]
  constructor <;> intros <;> simp_all

def W63 : Trans := fun args H Bd K => ∃ (xs : List GSymbol) (ys : List GSymbol), args = [lst (xs), lst (ys)] ∧ ((sm xs) ∧ K (.bool (decide (xs = ys))) H Bd)
@[go_sem ↓] theorem W63_eq (xs : List GSymbol) (ys : List GSymbol) (H : AH) (Bd : Nat) (K : Value → AH → Nat → Prop) : W63 [lst (xs), lst (ys)] H Bd K = ((sm xs) ∧ K (.bool (decide (xs = ys))) H Bd) := by
  refine propext ⟨fun h => ?_, fun h => ⟨_, _, rfl, h⟩⟩
  obtain ⟨xs', ys', e, h⟩ := h
  skip
  skip
  simp only [List.cons.injEq, Value.agg.injEq, toArr_inj, Value.int.injEq, Value.bool.injEq, Value.string.injEq, Value.slice.injEq, Value.func.injEq, Value.pointer.injEq, Option.some.injEq, Addr.mk.injEq, lst_inj, true_and, and_true] at e
  obtain ⟨rfl, rfl⟩ := e
  exact h
theorem W63_ok : OK 63 W63 := by
  rintro args H Bd K ⟨xs, ys, rfl, hpre, hK⟩
  refine fn_pure pok ((Env.base _).add 99 _ W99_ok) [(6, [0,1,2,3,4,5,6,7,8,9], [⟨0, [], []⟩, ⟨1, [], []⟩, ⟨2, [], []⟩, ⟨3, [], []⟩, ⟨4, [], []⟩, ⟨5, [], []⟩, ⟨6, [], []⟩, ⟨7, [], []⟩, ⟨8, [], []⟩, ⟨9, [], []⟩], .nil)] _ hK Tryz.func63 rfl (rs := [.tmp 4]) rfl Tryz.ntmps63 (by simp) Tryz.call63 (by kernel_rfl) (fun ha hb => .bool _) (fun hb ha => ?_)
  have hlen := sm_len hpre
  simp (maxSteps := 2000000) (disch := first | assumption | (refine asm_intro ?_; assumption) | exact Nat.le_add_right _ _ | exact Nat.le_refl _ | omega | (simp (disch := first | exact Nat.le_add_right _ _ | omega) only [Le_upd hb, Le_app hb, Le_rfl, free_T hb, free_upd]; done) | fail) only [go_sem, push_cast, and_pos, Le_updF, Le_upd hb, free_T hb]
  refine Cnp.of (fun hl => ?_) (fun hl => cmp_len (by omega))
  have hl' : xs.length = ys.length := by omega
  refine tr_for (fun i => ∀ j, j < i → xs[j]? = ys[j]?) xs.length (fun i => [(0, lst xs), (1, lst ys), (5, .int .i64 i)]) (fun j h => by omega) (by simp only [go_sem, push_cast, and_pos, Le_updF]) ?_
  intro i B0 hI hi hB
  refine vq_conv pok (E := ((Env.base _).add 99 _ W99_ok)) (PL := [(6, [0,1,2,3,4,5,6,7,8,9], [⟨0, [], []⟩, ⟨1, [], []⟩, ⟨2, [], []⟩, ⟨3, [], []⟩, ⟨4, [], []⟩, ⟨5, [], []⟩, ⟨6, [], []⟩, ⟨7, [], []⟩, ⟨8, [], []⟩, ⟨9, [], []⟩], .nil)]) (by kernel_rfl) ?_
  rcases Nat.lt_or_ge i xs.length with hlt | hge
  · have e1 : xs[i]? = some xs[i] := List.getElem?_eq_getElem hlt
    have e2 : ys[i]? = some (ys[i]'(by omega)) := List.getElem?_eq_getElem _
    have hx := sm_mem hpre (List.getElem_mem hlt)
    simp (maxSteps := 2000000) (disch := first | assumption | (refine asm_intro ?_; assumption) | exact Nat.le_add_right _ _ | exact Nat.le_refl _ | omega | (simp (disch := first | exact Nat.le_add_right _ _ | omega) only [Le_upd hb, Le_app hb, Le_rfl, free_T hb, free_upd]; done) | fail) only [go_sem, push_cast, and_pos, Le_updF, Le_upd hb, free_T hb, e1, e2, hx]
    exact cmp_step hl' hI hlt (by omega) rfl fun h => h
  · simp (maxSteps := 2000000) (disch := first | assumption | (refine asm_intro ?_; assumption) | exact Nat.le_add_right _ _ | exact Nat.le_refl _ | omega | (simp (disch := first | exact Nat.le_add_right _ _ | omega) only [Le_upd hb, Le_app hb, Le_rfl, free_T hb, free_upd]; done) | fail) only [go_sem, push_cast, and_pos, Le_updF, Le_upd hb, free_T hb]
    refine vq_conv pok (E := ((Env.base _).add 99 _ W99_ok)) (PL := [(6, [0,1,2,3,4,5,6,7,8,9], [⟨0, [], []⟩, ⟨1, [], []⟩, ⟨2, [], []⟩, ⟨3, [], []⟩, ⟨4, [], []⟩, ⟨5, [], []⟩, ⟨6, [], []⟩, ⟨7, [], []⟩, ⟨8, [], []⟩, ⟨9, [], []⟩], .nil)]) (by kernel_rfl) ?_
    simp (maxSteps := 2000000) (disch := first | assumption | (refine asm_intro ?_; assumption) | exact Nat.le_add_right _ _ | exact Nat.le_refl _ | omega | (simp (disch := first | exact Nat.le_add_right _ _ | omega) only [Le_upd hb, Le_app hb, Le_rfl, free_T hb, free_upd]; done) | fail) only [go_sem, push_cast, and_pos, Le_updF, Le_upd hb, free_T hb]
    exact cmp_end hl' hI hge

def W27 : Trans := fun args H Bd K => ∃ (x : GSignature) (y : GSignature), args = [.agg (enc (x)).toArray, .agg (enc (y)).toArray] ∧ ((sm x) ∧ K (.bool (decide (x = y))) H Bd)
@[go_sem ↓] theorem W27_eq (x_symbols : List GSymbol) (y_symbols : List GSymbol) (H : AH) (Bd : Nat) (K : Value → AH → Nat → Prop) : W27 [.agg #[lst (x_symbols)], .agg #[lst (y_symbols)]] H Bd K = ((sm (GSignature.mk x_symbols)) ∧ K (.bool (decide ((GSignature.mk x_symbols) = (GSignature.mk y_symbols)))) H Bd) := by
  refine propext ⟨fun h => ?_, fun h => ⟨_, _, rfl, h⟩⟩
  obtain ⟨x', y', e, h⟩ := h
  obtain ⟨xsymbols'⟩ := x'
  obtain ⟨ysymbols'⟩ := y'
  simp only [enc_GSignature, List.cons.injEq, Value.agg.injEq, toArr_inj, Value.int.injEq, Value.bool.injEq, Value.string.injEq, Value.slice.injEq, Value.func.injEq, Value.pointer.injEq, Option.some.injEq, Addr.mk.injEq, lst_inj, true_and, and_true] at e
  obtain ⟨rfl, rfl⟩ := e
  exact h
theorem W27_ok : OK 27 W27 := by
  rintro args H Bd K ⟨x, y, rfl, hpre, hK⟩
  refine fn_pure pok ((Env.base _).add 63 _ W63_ok) [] _ hK Tryz.func27 rfl (rs := [.tmp 4]) rfl Tryz.ntmps27 (by simp) Tryz.call27 (by kernel_rfl) (fun ha hb => .bool _) (fun hb ha => ?_)
  simp only [sm_GSignature] at hpre
  simp (maxSteps := 2000000) (disch := first | assumption | (refine asm_intro ?_; assumption) | exact Nat.le_add_right _ _ | exact Nat.le_refl _ | omega | (simp (disch := first | exact Nat.le_add_right _ _ | omega) only [Le_upd hb, Le_app hb, Le_rfl, free_T hb, free_upd]; done) | fail) only [go_sem, push_cast, and_pos, Le_updF, Le_upd hb, free_T hb, hpre]
  cases x; cases y
  simp only [Cnp, GSignature.mk.injEq]
  constructor <;> intros <;> simp_all

def W64 : Trans := fun args H Bd K => ∃ (xs : List Int) (ys : List Int), args = [lst (xs), lst (ys)] ∧ ((sm xs) ∧ K (.bool (decide (xs = ys))) H Bd)
@[go_sem ↓] theorem W64_eq (xs : List Int) (ys : List Int) (H : AH) (Bd : Nat) (K : Value → AH → Nat → Prop) : W64 [lst (xs), lst (ys)] H Bd K = ((sm xs) ∧ K (.bool (decide (xs = ys))) H Bd) := by
  refine propext ⟨fun h => ?_, fun h => ⟨_, _, rfl, h⟩⟩
  obtain ⟨xs', ys', e, h⟩ := h
  skip
  skip
  simp only [List.cons.injEq, Value.agg.injEq, toArr_inj, Value.int.injEq, Value.bool.injEq, Value.string.injEq, Value.slice.injEq, Value.func.injEq, Value.pointer.injEq, Option.some.injEq, Addr.mk.injEq, lst_inj, true_and, and_true] at e
  obtain ⟨rfl, rfl⟩ := e
  exact h
theorem W64_ok : OK 64 W64 := by
  rintro args H Bd K ⟨xs, ys, rfl, hpre, hK⟩
  refine fn_pure pok (Env.base _) [(6, [0,1,2,3,4,5,6,7,8], [⟨0, [], []⟩, ⟨1, [], []⟩, ⟨2, [], []⟩, ⟨3, [], []⟩, ⟨4, [], []⟩, ⟨5, [], []⟩, ⟨6, [], []⟩, ⟨7, [], []⟩, ⟨8, [], []⟩], .nil)] _ hK Tryz.func64 rfl (rs := [.tmp 4]) rfl Tryz.ntmps64 (by simp) Tryz.call64 (by kernel_rfl) (fun ha hb => .bool _) (fun hb ha => ?_)
  have hlen := sm_len hpre
  simp (maxSteps := 2000000) (disch := first | assumption | (refine asm_intro ?_; assumption) | exact Nat.le_add_right _ _ | exact Nat.le_refl _ | omega | (simp (disch := first | exact Nat.le_add_right _ _ | omega) only [Le_upd hb, Le_app hb, Le_rfl, free_T hb, free_upd]; done) | fail) only [go_sem, push_cast, and_pos, Le_updF, Le_upd hb, free_T hb]
  refine Cnp.of (fun hl => ?_) (fun hl => cmp_len (by omega))
  have hl' : xs.length = ys.length := by omega
  refine tr_for (fun i => ∀ j, j < i → xs[j]? = ys[j]?) xs.length (fun i => [(0, lst xs), (1, lst ys), (5, .int .i64 i)]) (fun j h => by omega) (by simp only [go_sem, push_cast, and_pos, Le_updF]) ?_
  intro i B0 hI hi hB
  refine vq_conv pok (E := (Env.base _)) (PL := [(6, [0,1,2,3,4,5,6,7,8], [⟨0, [], []⟩, ⟨1, [], []⟩, ⟨2, [], []⟩, ⟨3, [], []⟩, ⟨4, [], []⟩, ⟨5, [], []⟩, ⟨6, [], []⟩, ⟨7, [], []⟩, ⟨8, [], []⟩], .nil)]) (by kernel_rfl) ?_
  rcases Nat.lt_or_ge i xs.length with hlt | hge
  · have e1 : xs[i]? = some xs[i] := List.getElem?_eq_getElem hlt
    have e2 : ys[i]? = some (ys[i]'(by omega)) := List.getElem?_eq_getElem _
    have hx := sm_mem hpre (List.getElem_mem hlt)
    simp (maxSteps := 2000000) (disch := first | assumption | (refine asm_intro ?_; assumption) | exact Nat.le_add_right _ _ | exact Nat.le_refl _ | omega | (simp (disch := first | exact Nat.le_add_right _ _ | omega) only [Le_upd hb, Le_app hb, Le_rfl, free_T hb, free_upd]; done) | fail) only [go_sem, push_cast, and_pos, Le_updF, Le_upd hb, free_T hb, e1, e2, hx]
    exact cmp_step hl' hI hlt (by omega) rfl fun h => h
  · simp (maxSteps := 2000000) (disch := first | assumption | (refine asm_intro ?_; assumption) | exact Nat.le_add_right _ _ | exact Nat.le_refl _ | omega | (simp (disch := first | exact Nat.le_add_right _ _ | omega) only [Le_upd hb, Le_app hb, Le_rfl, free_T hb, free_upd]; done) | fail) only [go_sem, push_cast, and_pos, Le_updF, Le_upd hb, free_T hb]
    refine vq_conv pok (E := (Env.base _)) (PL := [(6, [0,1,2,3,4,5,6,7,8], [⟨0, [], []⟩, ⟨1, [], []⟩, ⟨2, [], []⟩, ⟨3, [], []⟩, ⟨4, [], []⟩, ⟨5, [], []⟩, ⟨6, [], []⟩, ⟨7, [], []⟩, ⟨8, [], []⟩], .nil)]) (by kernel_rfl) ?_
    simp (maxSteps := 2000000) (disch := first | assumption | (refine asm_intro ?_; assumption) | exact Nat.le_add_right _ _ | exact Nat.le_refl _ | omega | (simp (disch := first | exact Nat.le_add_right _ _ | omega) only [Le_upd hb, Le_app hb, Le_rfl, free_T hb, free_upd]; done) | fail) only [go_sem, push_cast, and_pos, Le_updF, Le_upd hb, free_T hb]
    exact cmp_end hl' hI hge

def W100 : Trans := fun args H Bd K => ∃ (x : GEquation) (y : GEquation), args = [.agg (enc (x)).toArray, .agg (enc (y)).toArray] ∧ ((sm x) ∧ K (.bool (decide (x = y))) H Bd)
@[go_sem ↓] theorem W100_eq (x_left : List Int) (x_right : List Int) (y_left : List Int) (y_right : List Int) (H : AH) (Bd : Nat) (K : Value → AH → Nat → Prop) : W100 [.agg #[lst (x_left), lst (x_right)], .agg #[lst (y_left), lst (y_right)]] H Bd K = ((sm (GEquation.mk x_left x_right)) ∧ K (.bool (decide ((GEquation.mk x_left x_right) = (GEquation.mk y_left y_right)))) H Bd) := by
  refine propext ⟨fun h => ?_, fun h => ⟨_, _, rfl, h⟩⟩
  obtain ⟨x', y', e, h⟩ := h
  obtain ⟨xleft', xright'⟩ := x'
  obtain ⟨yleft', yright'⟩ := y'
  simp only [enc_GEquation, List.cons.injEq, Value.agg.injEq, toArr_inj, Value.int.injEq, Value.bool.injEq, Value.string.injEq, Value.slice.injEq, Value.func.injEq, Value.pointer.injEq, Option.some.injEq, Addr.mk.injEq, lst_inj, true_and, and_true] at e
  obtain ⟨⟨rfl, rfl⟩, ⟨rfl, rfl⟩⟩ := e
  exact h
theorem W100_ok : OK 100 W100 := by
  rintro args H Bd K ⟨x, y, rfl, hpre, hK⟩
  refine fn_pure pok ((Env.base _).add 64 _ W64_ok) [] _ hK Tryz.func100 rfl (rs := [.tmp 4]) rfl Tryz.ntmps100 (by simp) Tryz.call100 (by kernel_rfl) (fun ha hb => .bool _) (fun hb ha => ?_)
  simp only [sm_GEquation] at hpre
  simp (maxSteps := 2000000) (disch := first | assumption | (refine asm_intro ?_; assumption) | exact Nat.le_add_right _ _ | exact Nat.le_refl _ | omega | (simp (disch := first | exact Nat.le_add_right _ _ | omega) only [Le_upd hb, Le_app hb, Le_rfl, free_T hb, free_upd]; done) | fail) only [go_sem, push_cast, and_pos, Le_updF, Le_upd hb, free_T hb, hpre]
  cases x; cases y
  simp only [Cnp, GEquation.mk.injEq]
  constructor <;> intros <;> simp_all

def W65 : Trans := fun args H Bd K => ∃ (xs : List GEquation) (ys : List GEquation), args = [lst (xs), lst (ys)] ∧ ((sm xs) ∧ K (.bool (decide (xs = ys))) H Bd)
@[go_sem ↓] theorem W65_eq (xs : List GEquation) (ys : List GEquation) (H : AH) (Bd : Nat) (K : Value → AH → Nat → Prop) : W65 [lst (xs), lst (ys)] H Bd K = ((sm xs) ∧ K (.bool (decide (xs = ys))) H Bd) := by
  refine propext ⟨fun h => ?_, fun h => ⟨_, _, rfl, h⟩⟩
  obtain ⟨xs', ys', e, h⟩ := h
  skip
  skip
  simp only [List.cons.injEq, Value.agg.injEq, toArr_inj, Value.int.injEq, Value.bool.injEq, Value.string.injEq, Value.slice.injEq, Value.func.injEq, Value.pointer.injEq, Option.some.injEq, Addr.mk.injEq, lst_inj, true_and, and_true] at e
  obtain ⟨rfl, rfl⟩ := e
  exact h
theorem W65_ok : OK 65 W65 := by
  rintro args H Bd K ⟨xs, ys, rfl, hpre, hK⟩
  refine fn_pure pok ((Env.base _).add 100 _ W100_ok) [(6, [0,1,2,3,4,5,6,7,8,9], [⟨0, [], []⟩, ⟨1, [], []⟩, ⟨2, [], []⟩, ⟨3, [], []⟩, ⟨4, [], []⟩, ⟨5, [], []⟩, ⟨6, [], []⟩, ⟨7, [], []⟩, ⟨8, [], []⟩, ⟨9, [], []⟩], .nil)] _ hK Tryz.func65 rfl (rs := [.tmp 4]) rfl Tryz.ntmps65 (by simp) Tryz.call65 (by kernel_rfl) (fun ha hb => .bool _) (fun hb ha => ?_)
  have hlen := sm_len hpre
  simp (maxSteps := 2000000) (disch := first | assumption | (refine asm_intro ?_; assumption) | exact Nat.le_add_right _ _ | exact Nat.le_refl _ | omega | (simp (disch := first | exact Nat.le_add_right _ _ | omega) only [Le_upd hb, Le_app hb, Le_rfl, free_T hb, free_upd]; done) | fail) only [go_sem, push_cast, and_pos, Le_updF, Le_upd hb, free_T hb]
  refine Cnp.of (fun hl => ?_) (fun hl => cmp_len (by omega))
  have hl' : xs.length = ys.length := by omega
  refine tr_for (fun i => ∀ j, j < i → xs[j]? = ys[j]?) xs.length (fun i => [(0, lst xs), (1, lst ys), (5, .int .i64 i)]) (fun j h => by omega) (by simp only [go_sem, push_cast, and_pos, Le_updF]) ?_
  intro i B0 hI hi hB
  refine vq_conv pok (E := ((Env.base _).add 100 _ W100_ok)) (PL := [(6, [0,1,2,3,4,5,6,7,8,9], [⟨0, [], []⟩, ⟨1, [], []⟩, ⟨2, [], []⟩, ⟨3, [], []⟩, ⟨4, [], []⟩, ⟨5, [], []⟩, ⟨6, [], []⟩, ⟨7, [], []⟩, ⟨8, [], []⟩, ⟨9, [], []⟩], .nil)]) (by kernel_rfl) ?_
  rcases Nat.lt_or_ge i xs.length with hlt | hge
  · have e1 : xs[i]? = some xs[i] := List.getElem?_eq_getElem hlt
    have e2 : ys[i]? = some (ys[i]'(by omega)) := List.getElem?_eq_getElem _
    have hx := sm_mem hpre (List.getElem_mem hlt)
    simp (maxSteps := 2000000) (disch := first | assumption | (refine asm_intro ?_; assumption) | exact Nat.le_add_right _ _ | exact Nat.le_refl _ | omega | (simp (disch := first | exact Nat.le_add_right _ _ | omega) only [Le_upd hb, Le_app hb, Le_rfl, free_T hb, free_upd]; done) | fail) only [go_sem, push_cast, and_pos, Le_updF, Le_upd hb, free_T hb, e1, e2, hx]
    exact cmp_step hl' hI hlt (by omega) rfl fun h => h
  · simp (maxSteps := 2000000) (disch := first | assumption | (refine asm_intro ?_; assumption) | exact Nat.le_add_right _ _ | exact Nat.le_refl _ | omega | (simp (disch := first | exact Nat.le_add_right _ _ | omega) only [Le_upd hb, Le_app hb, Le_rfl, free_T hb, free_upd]; done) | fail) only [go_sem, push_cast, and_pos, Le_updF, Le_upd hb, free_T hb]
    refine vq_conv pok (E := ((Env.base _).add 100 _ W100_ok)) (PL := [(6, [0,1,2,3,4,5,6,7,8,9], [⟨0, [], []⟩, ⟨1, [], []⟩, ⟨2, [], []⟩, ⟨3, [], []⟩, ⟨4, [], []⟩, ⟨5, [], []⟩, ⟨6, [], []⟩, ⟨7, [], []⟩, ⟨8, [], []⟩, ⟨9, [], []⟩], .nil)]) (by kernel_rfl) ?_
    simp (maxSteps := 2000000) (disch := first | assumption | (refine asm_intro ?_; assumption) | exact Nat.le_add_right _ _ | exact Nat.le_refl _ | omega | (simp (disch := first | exact Nat.le_add_right _ _ | omega) only [Le_upd hb, Le_app hb, Le_rfl, free_T hb, free_upd]; done) | fail) only [go_sem, push_cast, and_pos, Le_updF, Le_upd hb, free_T hb]
    exact cmp_end hl' hI hge

end Go.Proofs.YtliijoclogakdaaGreatDoor
