/- Regions in the text's order, whose guarded groups (&& and ||) are worked out as one value. -/
import Derived.Test.YthhcemhignihlaaDoorScM8
set_option linter.unusedSimpArgs false
set_option linter.unusedVariables false
namespace Go.SC
open Go

/-- How a region's operations hang together: an operation; a group under one guard, with the pick behind it. -/
inductive JT where
  | nil
  | op (t : JT)
  | grp (want : Bool) (c d n : Nat) (D : List Nat) (pd : Nat) (pg : Option (Nat × Bool)) (g t : JT)
def JT.k : Nat → JT → JT
  | 0, t => t
  | n + 1, t => .op (JT.k n t)
def JT.cnt : JT → Nat
  | .nil => 0
  | .op t => t.cnt + 1
  | .grp _ _ _ n _ _ _ _ t => n + 1 + t.cnt
def dstsOf (l : List Oper) : List Nat := l.flatMap fun o => o.dst.toList
def skipOK (ops : List Oper) (want : Bool) (c : Nat) : List Nat → List Oper → Bool
  | _, [] => true
  | D, q :: r => (match q.guard with
    | some (j, w) => match odst ops j with
      | some s => ((s == c) && (w == want)) || D.contains s
      | none => false
    | none => false) && skipOK ops want c (q.dst.toList ++ D) r
def pickShape (want : Bool) (c d : Nat) : Op → Bool
  | .pick (.tmp c') (.const (.bool true)) (.tmp d') => !want && c' == c && d' == d
  | .pick (.tmp c') (.tmp d') (.const (.bool false)) => want && c' == c && d' == d
  | _ => false
def pgOK (ops : List Oper) : Option (Nat × Bool) → Option (Nat × Bool) → Bool
  | none, none => true
  | some (j, w), some (s, w') => (w == w') && decide (odst ops j = some s)
  | _, _ => false
def jtOK (ops : List Oper) : JT → List Oper → Bool
  | .nil, _ => true
  | .op t, _ :: rest => jtOK ops t rest
  | .op _, [] => false
  | .grp want c d n D pd pg g t, l => decide (g.cnt = n) && jtOK ops g l && decide (D = dstsOf (l.take n)) && !D.contains c && skipOK ops want c [] (l.take n) &&
    (match l.drop n with
      | p :: rest => decide (p.dst = some pd) && pickShape want c d p.op && pgOK ops p.guard pg && jtOK ops t rest
      | [] => false)

def forget : List Nat → List Value → List Value
  | [], s => s
  | d :: D, s => forget D (sset s d unk)
def Fr (D : List Nat) (s s' : List Value) : Prop := s'.length = s.length ∧ ∀ i, i ∉ D → s'[i]? = s[i]?
theorem Fr.refl (s : List Value) : Fr [] s s := ⟨rfl, fun _ _ => rfl⟩
theorem Fr.trans {D E : List Nat} {a b c : List Value} (h : Fr D a b) (k : Fr E b c) : Fr (D ++ E) a c :=
  ⟨k.1.trans h.1, fun i hi => (k.2 i fun x => hi (List.mem_append_right _ x)).trans (h.2 i fun x => hi (List.mem_append_left _ x))⟩
theorem Fr.put (s : List Value) (d : Option Nat) (v : Value) : Fr d.toList s (sput s d v) := by
  cases d with
  | none => exact Fr.refl s
  | some d =>
    simp only [sput, sset_eq, Option.toList]
    exact ⟨by simp, fun i hi => by rw [List.getElem?_set_ne]; simpa [eq_comm] using hi⟩
theorem forget_get : ∀ (D : List Nat) (s : List Value), (forget D s).length = s.length ∧ ∀ i v, (forget D s)[i]? = some v → v = unk ∨ (i ∉ D ∧ s[i]? = some v)
  | [], s => ⟨rfl, fun i v h => .inr ⟨by simp, h⟩⟩
  | d :: D, s => by
    obtain ⟨h1, h2⟩ := forget_get D (sset s d unk)
    rw [forget]
    refine ⟨by rw [h1, sset_eq, List.length_set], fun i v h => ?_⟩
    rcases h2 i v h with rfl | ⟨hi, hv⟩
    · exact .inl rfl
    · rw [sset_eq, List.getElem?_set] at hv
      by_cases e : d = i
      · rw [if_pos e] at hv
        split at hv
        · cases hv; exact .inl rfl
        · cases hv
      · rw [if_neg e] at hv
        exact .inr ⟨by simp only [List.mem_cons, not_or]; exact ⟨fun x => e x.symm, hi⟩, hv⟩
theorem SR.forget {ι : Ren} {w : World} {s s' : List Value} {t : Array Value} {D : List Nat} (h : SR ι w s' t) (hf : Fr D s s') : SR ι w (forget D s) t := by
  obtain ⟨h1, h2⟩ := forget_get D s
  refine ⟨by rw [h1, ← hf.1]; exact h.1, fun i v v' hv hv' => ?_⟩
  rcases h2 i v hv with rfl | ⟨hi, hs⟩
  · exact .unk _
  · exact h.2 i v v' (by rw [hf.2 i hi]; exact hs) hv'

def abool' : Value → Option Bool
  | .bool b => some b
  | _ => none
/-- The value of a group. -/
def JE (want : Bool) (p : Prop) (X K : Bool → Prop) : Prop := ∃ r : Bool, (match want with | false => (p → r = true) ∧ (¬ p → X r) | true => (p → X r) ∧ (¬ p → r = false)) ∧ K r
def gK (pg : Option (Nat × Bool)) (s : List Value) (A B : Prop) : Prop :=
  match pg with
  | none => A
  | some (c, w) => match sget s c with
    | .bool b => Cnd (b == w) A B
    | .tuple _ => B
    | _ => False
def vopsJ {P : Program} (E : Env P) (ops : List Oper) : JT → List Oper → List Value → AH → Nat → (List Value → AH → Nat → Prop) → Prop
  | .nil, _, s, H, Bd, Q => Q s H Bd
  | .op _, [], _, _, _, _ => False
  | .op t, o :: rest, s, H, Bd, Q =>
    match o.guard with
    | none => astep E o s H Bd fun v H Bd => vopsJ E ops t rest (sput s o.dst v) H Bd Q
    | some (j, want) =>
      match agard ops s j with
      | some (.bool b) => Cnd (b == want) (astep E o s H Bd fun v H Bd => vopsJ E ops t rest (sput s o.dst v) H Bd Q) (vopsJ E ops t rest (sput s o.dst undef) H Bd Q)
      | some (.tuple _) => vopsJ E ops t rest (sput s o.dst undef) H Bd Q
      | _ => False
  | .grp want c d n D pd pg g t, l, s, H, Bd, Q => Yld (abool' (sget s c)) fun b => JE want (b = true) (fun r => vopsJ E ops g l s H Bd fun s' H' Bd' => H' = H ∧ Bd' = Bd ∧ sget s' d = .bool r)
      fun r => gK pg (forget D s) (vopsJ E ops t (l.drop (n + 1)) (sset (forget D s) pd (.bool r)) H Bd Q) (vopsJ E ops t (l.drop (n + 1)) (sset (forget D s) pd undef) H Bd Q)

theorem astep_pick_val {P : Program} {E : Env P} {o : Oper} {s : List Value} {H : AH} {Bd : Nat} {K : Value → AH → Nat → Prop} {c : Nat} {x y : Operand} (ho : o.op = .pick (.tmp c) x y) {b : Bool} (hc : sget s c = .bool b)
    (hk : K (if b = true then ev s x else ev s y) H Bd) : astep E o s H Bd K := by
  unfold astep
  rw [ho]
  have : ev s (.tmp c) = .bool b := hc
  simp only [aval, this]
  cases b <;> exact ⟨_, rfl, by simpa using hk⟩

/-- All of a group is passed over. -/
theorem skip_sound {P : Program} {ops : Array Oper} {Qc : Exit → Act → World → Prop} {want b : Bool} {c : Nat} (hbw : b ≠ want) {A : Nat → Prop} {ι : Ren} {H : AH} {Bd : Nat} {w : World} (R : List Oper) :
    ∀ (l : List Oper) (D0 : List Nat) (s : List Value) (a : Act), skipOK ops.toList want c D0 l = true → (∀ o ∈ l, o.dst ≠ some c) → St A ι s H Bd a w → sget s c = .bool b → (∀ d ∈ D0, sget s d = undef) →
      (∀ s' a', Fr (dstsOf l) s s' → St A ι s' H Bd a' w → wpList P ops Qc R a' w) → wpList P ops Qc (l ++ R) a w
  | [], D0, s, a, _, _, hst, _, _, hQ => hQ s a (Fr.refl s) hst
  | q :: r, D0, s, a, hk, hc, hst, hb, hD, hQ => by
    simp only [skipOK, Bool.and_eq_true] at hk
    obtain ⟨hk1, hk2⟩ := hk
    have hqc := hc q (List.mem_cons_self ..)
    have hput : ∀ (x : Nat) (v : Value), sget s x = v → q.dst ≠ some x → sget (sput s q.dst undef) x = v := by
      intro x v hx hq
      cases hd : q.dst with
      | none => exact hx
      | some d =>
        simp only [sput, sget_eq, sset_eq, List.getD_eq_getElem?_getD] at hx ⊢
        rw [List.getElem?_set_ne (by intro e; subst e; exact hq hd)]
        exact hx
    have hund : ∀ x, q.dst = some x → sget (sput s q.dst undef) x = undef := by
      intro x hx
      rw [hx]
      simp only [sput, sget_eq, sset_eq, List.getD_eq_getElem?_getD, List.getElem?_set]
      split
      · split <;> rfl
      · rename_i h; exact absurd trivial h
    have hnext : wpList P ops Qc (r ++ R) (a.put q.dst undef) w := by
      refine skip_sound hbw R r (q.dst.toList ++ D0) (sput s q.dst undef) _ hk2 (fun o ho => hc o (List.mem_cons_of_mem _ ho)) (hst.put hst.rel (Keep.refl A w) (Agr.refl _ _) q.dst (vr_undef ι w)) (hput c _ hb hqc) ?_ ?_
      · intro d hd
        rcases List.mem_append.1 hd with h | h
        · exact hund d (by simpa using h)
        · by_cases e : q.dst = some d
          · exact hund d e
          · exact hput d _ (hD d h) e
      · intro s' a' hf hs
        exact hQ s' a' ((Fr.put s q.dst undef).trans hf) hs
    unfold wpList
    cases hg : q.guard with
    | none => rw [hg] at hk1; simp at hk1
    | some jw =>
      obtain ⟨j, w2⟩ := jw
      rw [hg] at hk1
      simp only at hk1
      cases ho : odst ops.toList j with
      | none => rw [ho] at hk1; simp at hk1
      | some sj =>
        rw [ho] at hk1
        simp only [Bool.or_eq_true, Bool.and_eq_true, beq_iff_eq] at hk1
        have hag : agard ops.toList s j = some (sget s sj) := by unfold agard; rw [ho]
        have hy : yielded ops a.tmps j ≠ some w2 := by
          rcases hk1 with ⟨rfl, rfl⟩ | hd
          · rw [hb] at hag
            rcases agard_sound hst.slots hag with ⟨v', h1, h2⟩ | ⟨h1, _⟩
            · cases h2; simp only [yielded, h1]; intro e; exact hbw (Option.some.inj e)
            · cases h1
          · rw [hD sj (by simpa using hd)] at hag
            rcases agard_sound hst.slots hag with ⟨v', h1, h2⟩ | ⟨_, h1⟩
            · cases h2; simp only [yielded, h1]; intro e; cases e
            · simp only [yielded, h1]; intro e; cases e
        simp only [List.cons_append]
        rw [if_neg (by simp only [Region.wanted, hg]; intro e; exact hy (by simpa using e))]
        exact hnext

theorem drop_cons {l : List Oper} {n : Nat} {p : Oper} {rest : List Oper} (h : l.drop n = p :: rest) : l.drop (n + 1) = rest := by
  rw [← List.drop_drop, h]; rfl
theorem dstsOf_append (a b : List Oper) : dstsOf (a ++ b) = dstsOf a ++ dstsOf b := by simp [dstsOf]
theorem sget_forget {D : List Nat} {s : List Value} {c : Nat} (hc : c ∉ D) : sget (forget D s) c = sget s c := by
  induction D generalizing s with
  | nil => rfl
  | cons d D ih =>
    simp only [List.mem_cons, not_or] at hc
    rw [forget, ih hc.2]
    simp only [sget_eq, sset_eq, List.getD_eq_getElem?_getD]
    rw [List.getElem?_set_ne fun e => hc.1 e.symm]
theorem Fr.sget {D : List Nat} {s s' : List Value} (h : Fr D s s') {c : Nat} (hc : c ∉ D) : SC.sget s' c = SC.sget s c := by
  simp only [sget_eq, List.getD_eq_getElem?_getD, h.2 c hc]
theorem fr_forget (D : List Nat) (s : List Value) : Fr D s (forget D s) := by
  induction D generalizing s with
  | nil => exact Fr.refl s
  | cons d D ih =>
    obtain ⟨h1, h2⟩ := ih (sset s d unk)
    rw [forget]
    refine ⟨by rw [h1, sset_eq, List.length_set], fun i hi => ?_⟩
    simp only [List.mem_cons, not_or] at hi
    rw [h2 i hi.2, sset_eq, List.getElem?_set_ne fun e => hi.1 e.symm]

theorem vopsJ_sound {P : Program} (hP : POk P) {E : Env P} {ops : Array Oper} {Qc : Exit → Act → World → Prop} :
    ∀ (t : JT) (l : List Oper) (s : List Value) (H : AH) (Bd : Nat) (Q : List Value → AH → Nat → Prop), jtOK ops.toList t l = true → vopsJ E ops.toList t l s H Bd Q → ∀ (A : Nat → Prop) (ι : Ren) (a : Act) (w : World), St A ι s H Bd a w →
      (∀ s' H' Bd' ι' a' w', Q s' H' Bd' → Fr (dstsOf (l.take t.cnt)) s s' → Bd ≤ Bd' → St A ι' s' H' Bd' a' w' → Keep A ι w ι' w' → Agr Bd ι ι' → NI H H' → wpList P ops Qc (l.drop t.cnt) a' w') → wpList P ops Qc l a w
  | .nil, l, s, H, Bd, Q, _, h, A, ι, a, w, hst, hQ => hQ s H Bd ι a w h (by simp [JT.cnt, dstsOf]; exact Fr.refl s) (Nat.le_refl _) hst (Keep.refl A w) (Agr.refl _ _) (NI.refl _)
  | .op _, [], s, H, Bd, Q, _, h, A, ι, a, w, hst, hQ => h.elim
  | .op t, o :: rest, s, H, Bd, Q, hj, h, A, ι, a, w, hst, hQ => by
    have hj' : jtOK ops.toList t rest = true := hj
    have hcomp : ∀ (v : Value) (s' : List Value), Fr (dstsOf (rest.take t.cnt)) (sput s o.dst v) s' → Fr (dstsOf ((o :: rest).take (t.cnt + 1))) s s' := by
      intro v s' hf
      rw [List.take_succ_cons, show o :: rest.take t.cnt = [o] ++ rest.take t.cnt from rfl, dstsOf_append]
      have := (Fr.put s o.dst v).trans hf
      simpa [dstsOf] using this
    have hstep : ∀ (hs : astep E o s H Bd fun v H Bd => vopsJ E ops.toList t rest (sput s o.dst v) H Bd Q), o.wp P a w (wpList P ops Qc rest) Qc := fun hs =>
      astep_sound hP hs A ι a w hst _ _ fun v r ι' H' Bd' w' h1 h2 h3 h4 h5 h6 h7 =>
        vopsJ_sound hP t rest _ H' Bd' Q hj' h1 A ι' _ w' (hst.put h3 h5 h6 o.dst h4) fun s2 H2 Bd2 ι2 a2 w2 g1 gf g2 g3 g4 g5 g6 =>
          hQ s2 H2 Bd2 ι2 a2 w2 g1 (hcomp _ _ gf) (Nat.le_trans h2 g2) g3 (h5.trans g4) (h6.trans g5 h2) (h7.trans g6)
    have hskip : vopsJ E ops.toList t rest (sput s o.dst undef) H Bd Q → wpList P ops Qc rest (a.put o.dst undef) w := fun hs =>
      vopsJ_sound hP t rest _ H Bd Q hj' hs A ι _ w (hst.put hst.rel (Keep.refl A w) (Agr.refl _ _) o.dst (vr_undef ι w)) fun s2 H2 Bd2 ι2 a2 w2 g1 gf g2 g3 g4 g5 g6 =>
          hQ s2 H2 Bd2 ι2 a2 w2 g1 (hcomp _ _ gf) g2 g3 g4 g5 g6
    unfold vopsJ at h
    unfold wpList
    cases hg : o.guard with
    | none =>
      rw [hg] at h
      rw [if_pos (by simp [Region.wanted, hg])]
      exact .inl (hstep h)
    | some jw =>
      obtain ⟨j, want⟩ := jw
      rw [hg] at h
      simp only at h
      split at h
      · rename_i b hb
        have hy : yielded ops a.tmps j = some b := by
          rcases agard_sound hst.slots hb with ⟨v', h1, h2⟩ | ⟨h1, _⟩
          · cases h2; simp only [yielded, h1]
          · cases h1
        by_cases hbw : b = want
        · subst hbw
          rw [if_pos (by simp [Region.wanted, hg, hy])]
          exact .inl (hstep (h.1 (by simp)))
        · rw [if_neg (by simp [Region.wanted, hg, hy, hbw])]
          exact hskip (h.2 (by simp [hbw]))
      · rename_i vs hb
        have hy : yielded ops a.tmps j = none := by
          rcases agard_sound hst.slots hb with ⟨v', h1, h2⟩ | ⟨_, h1⟩
          · cases h2; simp only [yielded, h1]
          · simp only [yielded, h1]
        rw [if_neg (by simp [Region.wanted, hg, hy])]
        exact hskip h
      · cases h
  | .grp want c d n D pd pg g t, l, s, H, Bd, Q, hj, h, A, ι, a, w, hst, hQ => by
    simp only [jtOK, Bool.and_eq_true, decide_eq_true_eq] at hj
    obtain ⟨⟨⟨⟨⟨hn, hjg⟩, hD⟩, hcD⟩, hsk⟩, hp⟩ := hj
    have hcD' : c ∉ D := by simpa using hcD
    cases hl : l.drop n with
    | nil => rw [hl] at hp; cases hp
    | cons p rest =>
      rw [hl] at hp
      simp only [Bool.and_eq_true, decide_eq_true_eq] at hp
      obtain ⟨⟨⟨hpd, hps⟩, hpg⟩, hjt⟩ := hp
      have hl1 : l.drop (n + 1) = rest := drop_cons hl
      obtain ⟨b, hb, r, hr, hk⟩ := h
      have hb' : sget s c = .bool b := by
        revert hb; generalize sget s c = x; intro hb
        cases x <;> simp [abool'] at hb
        rw [hb]
      rw [hl1] at hk
      -- behind the group: the pick, and the rest
      have hafter : ∀ (s' : List Value) (ι' : Ren) (a' : Act) (w' : World), Fr D s s' → St A ι' s' H Bd a' w' → Keep A ι w ι' w' → Agr Bd ι ι' → (b = want → sget s' d = .bool r) → (b ≠ want → r = b) → wpList P ops Qc (p :: rest) a' w' := by
        intro s' ι' a' w' hf hs' hkp hag hv1 hv2
        have hsf : St A ι' (forget D s) H Bd a' w' := ⟨hs'.rel, hs'.slots.forget hf, hs'.defers⟩
        have hc' : sget s' c = .bool b := by rw [hf.sget hcD', hb']
        have hgo : vopsJ E ops.toList t rest (sset (forget D s) pd (.bool r)) H Bd Q → p.wp P a' w' (wpList P ops Qc rest) Qc := by
          intro hk
          have hpick : astep E p s' H Bd fun v H' Bd' => v = .bool r ∧ H' = H ∧ Bd' = Bd := by
            revert hps
            cases hpo : p.op <;> intro hps <;> try (simp [pickShape] at hps; done)
            rename_i cc x y
            cases want with
            | false =>
              unfold pickShape at hps
              split at hps
              · rename_i c' d' heq
                cases heq
                simp only [Bool.not_false, Bool.true_and, Bool.and_eq_true, beq_iff_eq] at hps
                obtain ⟨rfl, rfl⟩ := hps
                refine astep_pick_val hpo hc' ?_
                cases b with
                | true => exact ⟨by rw [hv2 (by simp)]; rfl, rfl, rfl⟩
                | false => exact ⟨by rw [if_neg (by simp)]; exact hv1 rfl, rfl, rfl⟩
              · simp at hps
              · cases hps
            | true =>
              unfold pickShape at hps
              split at hps
              · simp at hps
              · rename_i c' d' heq
                cases heq
                simp only [Bool.true_and, Bool.and_eq_true, beq_iff_eq] at hps
                obtain ⟨rfl, rfl⟩ := hps
                refine astep_pick_val hpo hc' ?_
                cases b with
                | true => exact ⟨by rw [if_pos rfl]; exact hv1 rfl, rfl, rfl⟩
                | false => exact ⟨by rw [hv2 (by simp)]; rfl, rfl, rfl⟩
              · cases hps
          refine astep_sound hP hpick A ι' a' w' hs' _ _ fun v r' ι2 H2 Bd2 w2 h1 h2 h3 h4 h5 h6 h7 => ?_
          obtain ⟨rfl, rfl, rfl⟩ := h1
          have hst2 := hsf.put h3 h5 h6 p.dst h4
          rw [hpd] at hst2 ⊢
          refine vopsJ_sound hP t rest _ _ _ Q hjt hk A ι2 _ w2 hst2 fun s2 H2 Bd2 ι2 a2 w2 g1 gf g2 g3 g4 g5 g6 => ?_
          have e := hQ s2 H2 Bd2 ι2 a2 w2 g1 ?_ g2 g3 ((hkp.trans h5).trans g4) ((hag.trans h6 (Nat.le_refl _)).trans g5 (Nat.le_refl _)) g6
          · simp only [JT.cnt] at e
            rw [← List.drop_drop, hl1] at e
            exact e
          · have e2 : l.take (JT.grp want c d n D pd pg g t).cnt = l.take n ++ (p :: rest.take t.cnt) := by
              conv => lhs; rw [← List.take_append_drop n l]
              rw [hl]
              have hln : (l.take n).length = n := by
                rw [List.length_take]
                have : (l.drop n).length ≠ 0 := by rw [hl]; simp
                rw [List.length_drop] at this; omega
              simp only [JT.cnt]
              rw [List.take_append, hln, List.take_of_length_le (by omega), show n + 1 + t.cnt - n = t.cnt + 1 by omega, List.take_succ_cons]
            rw [e2, dstsOf_append, ← hD]
            refine (fr_forget D s).trans ?_
            have := (Fr.put (forget D s) (some pd) (.bool r)).trans gf
            rw [show p :: rest.take t.cnt = [p] ++ rest.take t.cnt from rfl, dstsOf_append]
            have e3 : dstsOf [p] = [pd] := by simp [dstsOf, hpd]
            rw [e3]
            simpa using this
        have hno : vopsJ E ops.toList t rest (sset (forget D s) pd undef) H Bd Q → wpList P ops Qc rest (a'.put p.dst undef) w' := by
          intro hk
          have hst2 := hsf.put hs'.rel (Keep.refl A w') (Agr.refl _ _) p.dst (vr_undef ι' w')
          rw [hpd] at hst2 ⊢
          refine vopsJ_sound hP t rest _ _ _ Q hjt hk A ι' _ w' hst2 fun s2 H2 Bd2 ι2 a2 w2 g1 gf g2 g3 g4 g5 g6 => ?_
          have e := hQ s2 H2 Bd2 ι2 a2 w2 g1 ?_ g2 g3 (hkp.trans g4) (hag.trans g5 (Nat.le_refl _)) g6
          · simp only [JT.cnt] at e
            rw [← List.drop_drop, hl1] at e
            exact e
          · have e2 : l.take (JT.grp want c d n D pd pg g t).cnt = l.take n ++ (p :: rest.take t.cnt) := by
              conv => lhs; rw [← List.take_append_drop n l]
              rw [hl]
              have hln : (l.take n).length = n := by
                rw [List.length_take]
                have : (l.drop n).length ≠ 0 := by rw [hl]; simp
                rw [List.length_drop] at this; omega
              simp only [JT.cnt]
              rw [List.take_append, hln, List.take_of_length_le (by omega), show n + 1 + t.cnt - n = t.cnt + 1 by omega, List.take_succ_cons]
            rw [e2, dstsOf_append, ← hD]
            refine (fr_forget D s).trans ?_
            have := (Fr.put (forget D s) (some pd) undef).trans gf
            rw [show p :: rest.take t.cnt = [p] ++ rest.take t.cnt from rfl, dstsOf_append]
            have e3 : dstsOf [p] = [pd] := by simp [dstsOf, hpd]
            rw [e3]
            simpa using this
        unfold wpList
        unfold gK at hk
        cases hpgd : p.guard with
        | none =>
          rw [hpgd] at hpg
          cases pg with
          | some x => cases hpg
          | none =>
            rw [if_pos (by simp [Region.wanted, hpgd])]
            exact .inl (hgo hk)
        | some jw =>
          obtain ⟨j, w2⟩ := jw
          rw [hpgd] at hpg
          cases pg with
          | none => cases hpg
          | some x =>
            obtain ⟨sl, w3⟩ := x
            simp only [pgOK, Bool.and_eq_true, beq_iff_eq, decide_eq_true_eq] at hpg
            obtain ⟨rfl, hod⟩ := hpg
            have hag' : agard ops.toList (forget D s) j = some (sget (forget D s) sl) := by unfold agard; rw [hod]
            simp only at hk
            split at hk
            · rename_i b2 hb2
              rw [hb2] at hag'
              have hy : yielded ops a'.tmps j = some b2 := by
                rcases agard_sound hsf.slots hag' with ⟨v', h1, h2⟩ | ⟨h1, _⟩
                · cases h2; simp only [yielded, h1]
                · cases h1
              by_cases hbw : b2 = w2
              · subst hbw
                rw [if_pos (by simp [Region.wanted, hpgd, hy])]
                exact .inl (hgo (hk.1 (by simp)))
              · rw [if_neg (by simp [Region.wanted, hpgd, hy, hbw])]
                exact hno (hk.2 (by simp [hbw]))
            · rename_i vs hb2
              rw [hb2] at hag'
              have hy : yielded ops a'.tmps j = none := by
                rcases agard_sound hsf.slots hag' with ⟨v', h1, h2⟩ | ⟨_, h1⟩
                · cases h2; simp only [yielded, h1]
                · simp only [yielded, h1]
              rw [if_neg (by simp [Region.wanted, hpgd, hy])]
              exact hno hk
            · cases hk
      by_cases hbw : b = want
      · subst hbw
        have hx : vopsJ E ops.toList g l s H Bd fun s' H' Bd' => H' = H ∧ Bd' = Bd ∧ sget s' d = .bool r := by
          cases b with
          | false => exact hr.2 (by simp)
          | true => exact hr.1 rfl
        refine vopsJ_sound hP g l s H Bd _ hjg hx A ι a w hst fun s' H' Bd' ι' a' w' h1 hf h2 h3 h4 h5 h6 => ?_
        obtain ⟨rfl, rfl, h1⟩ := h1
        rw [hn, hl]
        rw [hn, ← hD] at hf
        exact hafter s' ι' a' w' hf h3 h4 h5 (fun _ => h1) (fun h => absurd rfl h)
      · have hrb : r = b := by
          cases b <;> cases want <;> simp_all
        have hc : ∀ o ∈ l.take n, o.dst ≠ some c := by
          intro o ho e
          refine hcD' ?_
          rw [hD]
          exact List.mem_flatMap.2 ⟨o, ho, by simp [e]⟩
        rw [← List.take_append_drop n l, hl]
        refine skip_sound hbw (p :: rest) (l.take n) [] s a hsk hc hst hb' (fun d hd => by cases hd) fun s' a' hf hs' => ?_
        rw [← hD] at hf
        exact hafter s' ι a' w hf hs' (Keep.refl A w) (Agr.refl _ _) (fun h => absurd h hbw) (fun _ => hrb)

end Go.SC
