/- Drawn regions of still operations; loops over any state; own lists lent. -/
import Derived.Test.YthhcemhignihlaaDoorScZ
import Derived.StillTail
set_option linter.unusedSimpArgs false
set_option linter.unusedVariables false
namespace Go.SC
open Go

/-! ### drawn regions whose operations change nothing, but for a tail -/
def stillOp : Op → Bool
  | .store .. | .alloc _ | .box .. | .buildSlice .. | .makeSlice .. | .convert .. | .call _ | .makeMap .. | .mapUpdate .. => false
  | _ => true
theorem astep_still {P : Program} {E : Env P} {o : Oper} {s : List Value} {H : AH} {Bd : Nat} {K : Value → AH → Nat → Prop} (h : astep E o s H Bd K) (ho : stillOp o.op = true)
    {A : Nat → Prop} {ι : Ren} {a : Act} {w : World} (hst : St A ι s H Bd a w) : ∃ v r, (execOp a.eval o).run P w = .ok (.value v) w ∧ K r H Bd ∧ VR ι w r v := by
  obtain ⟨dst, op, type, pos, after, guard⟩ := o
  have hav : (Yld (aval P s op) fun v => K v H Bd) → ∃ v r, (execOp a.eval ⟨dst, op, type, pos, after, guard⟩).run P w = .ok (.value v) w ∧ K r H Bd ∧ VR ι w r v := fun ⟨r, hr, hk⟩ => by
    obtain ⟨v, h1, h2⟩ := aval_sound (P := P) hst.slots (o := ⟨dst, op, type, pos, after, guard⟩) hr
    exact ⟨v, r, h1, hk, h2⟩
  unfold astep at h
  simp only at h ho
  split at h
  · rename_i t x
    split at h
    · rename_i n off hx
      obtain ⟨b, hb, v, hv, hk⟩ := h
      have hxv := hst.slots.ev x
      rw [hx] at hxv
      obtain ⟨v', h1, h2⟩ := aload_sound (P := P) hst.rel hb hxv hv
      exact ⟨v', v, by simp only [execOp, Sem.run_bind, h1, Result.andThen_ok, Sem.run_pure], hk, h2⟩
    · rename_i m fs cs hx
      obtain ⟨v, hv, hk⟩ := h
      have hxv := hst.slots.ev x
      rw [hx] at hxv
      obtain ⟨v', h1, h2⟩ := vload_sound (P := P) hxv hv
      exact ⟨v', v, by simp only [execOp, Sem.run_bind, h1, Result.andThen_ok, Sem.run_pure], hk, h2⟩
    · cases h
  · simp [stillOp] at ho
  · simp [stillOp] at ho
  · simp [stillOp] at ho
  · simp [stillOp] at ho
  · simp [stillOp] at ho
  · simp [stillOp] at ho
  · simp [stillOp] at ho
  · simp [stillOp] at ho
  · rename_i t x i
    obtain ⟨b, hb, hk1, hk2⟩ := h
    obtain ⟨v, ok, h1, h2⟩ := alookup_sound (P := P) hst.rel (hst.slots.ev x) (hst.slots.ev i) hb
    have hv : ∀ c d : Bool, VR ι w (.tuple #[.bool c, .bool d]) (.tuple #[.bool c, .bool d]) := fun c d => .tuple rfl fun j u u' g1 g2 => by
      rw [g1] at g2; cases g2
      match j with
      | 0 => cases g1; exact .bool _
      | 1 => cases g1; exact .bool _
      | j + 2 => simp at g1
    refine ⟨_, _, by simp only [execOp, Sem.run_bind, h1, Result.andThen_ok, Sem.run_pure], ?_, hv v ok⟩
    rcases h2 with ⟨rfl, rfl⟩ | ⟨rfl, rfl⟩
    · exact hk1
    · exact hk2
  · simp [stillOp] at ho
  · exact hav h

theorem vops_still {P : Program} {E : Env P} {ops : List Oper} {A : Nat → Prop} {ι : Ren} {H : AH} {Bd : Nat} {w : World} {Q : List Value → AH → Nat → Prop} {Qa : Act → Prop} (tl : List Oper)
    (hQ : ∀ s a, St A ι s H Bd a w → vops E ops tl s H Bd Q → Qa a) : ∀ (hd : List Oper) (s : List Value) (a : Act), hd.all (fun o => stillOp o.op) = true → St A ι s H Bd a w → vops E ops (hd ++ tl) s H Bd Q → wpStill P ops.toArray w Qa hd a
  | [], s, a, _, hst, h => hQ s a hst h
  | o :: hd, s, a, hs, hst, h => by
    simp only [List.all_cons, Bool.and_eq_true] at hs
    have hstep : astep E o s H Bd (fun v H Bd => vops E ops (hd ++ tl) (sput s o.dst v) H Bd Q) → o.still P a w (wpStill P ops.toArray w Qa hd) := fun hk => by
      obtain ⟨v, r, h1, h2, h3⟩ := astep_still hk hs.1 hst
      unfold Oper.still
      rw [h1, Oper.stillUpon_value]
      exact vops_still tl hQ hd _ _ hs.2 (hst.put hst.rel (Keep.refl A w) (Agr.refl _ _) o.dst h3) h2
    have hskip : vops E ops (hd ++ tl) (sput s o.dst undef) H Bd Q → wpStill P ops.toArray w Qa hd (a.put o.dst undef) := fun hk =>
      vops_still tl hQ hd _ _ hs.2 (hst.put hst.rel (Keep.refl A w) (Agr.refl _ _) o.dst (vr_undef ι w)) hk
    rw [List.cons_append] at h
    unfold vops at h
    unfold wpStill
    cases hg : o.guard with
    | none =>
      rw [hg] at h
      rw [if_pos (by simp [Region.wanted, hg])]
      exact hstep h
    | some jw =>
      obtain ⟨j, want⟩ := jw
      rw [hg] at h
      simp only at h
      split at h
      · rename_i b hb
        have hy : yielded ops.toArray a.tmps j = some b := by
          rcases agard_sound (ops := ops.toArray) hst.slots hb with ⟨v', h1, h2⟩ | ⟨h1, _⟩
          · cases h2; simp only [yielded, h1]
          · cases h1
        by_cases hbw : b = want
        · subst hbw
          rw [if_pos (by simp [Region.wanted, hg, hy])]
          exact hstep (h.1 (by simp))
        · rw [if_neg (by simp [Region.wanted, hg, hy, hbw])]
          exact hskip (h.2 (by simp [hbw]))
      · rename_i vs hb
        have hy : yielded ops.toArray a.tmps j = none := by
          rcases agard_sound (ops := ops.toArray) hst.slots hb with ⟨v', h1, h2⟩ | ⟨_, h1⟩
          · cases h2; simp only [yielded, h1]
          · simp only [yielded, h1]
        rw [if_neg (by simp [Region.wanted, hg, hy])]
        exact hskip h
      · cases h

/-- A drawn region whose operations change nothing, but for a tail that stands in order. -/
theorem tr_still {P : Program} (hP : POk P) (E : Env P) {N0 id : Nat} {l : List Oper} (n : Nat) (hB : (Region.lexTailB .any l.toArray n && (l.take n).all (fun o => stillOp o.op)) = true) {Q : APost} {s : List Value} {H : AH} {Bd : Nat}
    (h : regn E none l (idS s) H Bd (Q .normal)) : Tr P N0 (.region id l.toArray true) Q s H Bd := by
  intro hN A ι a w hst
  simp only [Bool.and_eq_true] at hB
  refine wp_region_still_tail n hP.mixed hB.1 ?_
  have hst' : St A ι s H Bd a w.drew := ⟨hst.rel.drew, hst.slots.mono (Ext.refl ι) (Keep.drew A w).rows, hst.defers⟩
  refine vops_still (w := w.drew) (H := H) (Bd := Bd) (E := E) (Q := Q .normal) (A := A) (ι := ι) (l.drop n) (fun s' a' hs' hq => ?_) (l.take n) s a hB.2 hst' (by rw [List.take_append_drop]; exact h)
  refine vops_sound hP (ops := l.toArray) (l.drop n) s' H Bd hq A ι a' w.drew hs' fun s2 H2 Bd2 ι2 a2 w2 g1 g2 g3 g4 g5 g6 => ?_
  exact ⟨ι2, s2, H2, Bd2, g1, Nat.le_trans hN g2, g3, (Keep.drew A w).trans g4, fun n hn => g5 n (Nat.lt_of_lt_of_le hn hN), g6⟩

/-! ### loops over any state -/
theorem tr_st {P : Program} {N0 : Nat} {c : Code} {Q : APost} {s : List Value} {H : AH} {Bd : Nat} {X : Type} (I : X → Prop) (μ : X → Nat) (sl : X → List (Nat × Value)) (hp : X → AH) (x0 : X) (h0 : I x0) (hs : FitL s (sl x0)) (hH : Le (hp x0) H)
    (round : ∀ x B, I x → Bd ≤ B → HB (hp x) B → ∀ F : List Value → AH → Nat → Prop, (∀ y s' H' B', μ y < μ x → I y → Le (hp y) H' → s'.length = s.length → FitL s' (sl y) → F s' H' B') → Tr P B c (thenQ F Q) (aS s.length unk (sl x)) (hp x) B) : Tr P N0 (.loop c) Q s H Bd := by
  refine tr_inv (X := X) (fun x s' H' B' => I x ∧ s' = aS s.length unk (sl x) ∧ H' = hp x) μ x0 _ _ Bd ⟨hs.fits rfl, hH, Nat.le_refl _⟩ ⟨h0, rfl, rfl⟩ ?_
  rintro x s' H' B' ⟨hi, rfl, rfl⟩ hB hb'
  refine (round x B' hi hB hb' (fun s2 H2 B2 => ∃ y, μ y < μ x ∧ I y ∧ Le (hp y) H2 ∧ s2.length = s.length ∧ FitL s2 (sl y)) fun y s2 H2 B2 h1 h2 h3 h4 h5 => ⟨y, h1, h2, h3, h4, h5⟩).mono fun e s2 H2 B2 hq => ?_
  cases e with
  | normal =>
    obtain ⟨y, g1, g2, g3, g4, g5⟩ := hq
    exact ⟨y, _, _, B2, g1, ⟨g5.fits g4, g3, Nat.le_refl _⟩, g2, rfl, rfl⟩
  | _ => exact hq

/-- An own list: its block, its length, its room. -/
structure Own where
  n : Nat
  len : Nat
  cap : Nat

/-! ### arrays built -/
theorem abuild_array {P : Program} {t e n k : Nat} {z : List Value} (hz : ask P (zeroValue t) = some (.agg z.toArray)) (h : ask P (underlying t) = some (.array n e)) (hk : ask P (sizeOf e) = some k) (hpl : z.all plainV = true) (parts : List (Nat × Value)) :
    abuild P t parts = (lfill (fun i => some (i * k, k)) z parts).map fun l => .agg l.toArray := by
  simp [abuild, hz, h, hk, plainU_all hpl]
class TyAr (P : Program) (t : Nat) (k : outParam Nat) (z : outParam (List Value)) : Prop where
  h : ∀ parts, abuild P t parts = (lfill (fun i => some (i * k, k)) z parts).map fun l => .agg l.toArray
@[push_cast] theorem abuild_A {P : Program} {t k : Nat} {z : List Value} [h : TyAr P t k z] (parts : List (Nat × Value)) : abuild P t parts = (lfill (fun i => some (i * k, k)) z parts).map fun l => .agg l.toArray := h.h parts
theorem hb_lt {H : AH} {n B : Nat} {b : Blk} (h : HB (upd H n (some b)) B) : n < B := by
  rcases Nat.lt_or_ge n B with h1 | h1
  · exact h1
  · have := h.fresh n h1; rw [upd_same] at this; cases this
end Go.SC
