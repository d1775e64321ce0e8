/- Calls over abstract memory, one operation's step, and regions in the text's order. -/
import Derived.Test.YthhcemhignihlaaDoorScJ2
import Derived.Tactics
set_option linter.unusedSimpArgs false
set_option linter.unusedVariables false
namespace Go.SC
open Go

def Agr (Bd : Nat) (ι ι' : Ren) : Prop := ∀ n, n < Bd → ι' n = ι n
theorem Agr.refl (Bd : Nat) (ι : Ren) : Agr Bd ι ι := fun _ _ => rfl
theorem Agr.trans {Bd Bd' : Nat} {a b c : Ren} (h : Agr Bd a b) (k : Agr Bd' b c) (hle : Bd ≤ Bd') : Agr Bd a c := fun n hn => (k n (Nat.lt_of_lt_of_le hn hle)).trans (h n hn)
theorem Agr.ext {A : Nat → Prop} {ι ι' : Ren} {H : AH} {Bd : Nat} {w : World} (h : Agr Bd ι ι') (hr : Rel A ι H Bd w) (hf : FzLe ι ι') : Ext ι ι' := ⟨fun n l hl => by
  rcases Nat.lt_or_ge n Bd with hn | hn
  · rw [h n hn, hl]
  · rw [hr.bound n hn] at hl; exact (by cases hl), hf⟩

/-- No new block that may not be changed. -/
def NI (H H' : AH) : Prop := ∀ n b, H' n = some b → b.own = false → ∃ b', H n = some b' ∧ b'.own = false
theorem NI.refl (H : AH) : NI H H := fun n b h k => ⟨b, h, k⟩
theorem NI.trans {a b c : AH} (h : NI a b) (k : NI b c) : NI a c := fun n x hx ho => by
  obtain ⟨y, h1, h2⟩ := k n x hx ho
  exact h n y h1 h2
theorem NI.upd {H G : AH} (h : NI H G) (n : Nat) (L : List Value) : NI H (SC.upd G n (some ⟨L, true⟩)) := fun m b hm ho => by
  by_cases e : m = n
  · subst e; rw [upd_same] at hm; cases hm; cases ho
  · rw [upd_other _ _ e] at hm; exact h m b hm ho
theorem NI.kill {H G : AH} (h : NI H G) (n : Nat) : NI H (SC.upd G n none) := fun m b hm ho => by
  by_cases e : m = n
  · subst e; rw [upd_same] at hm; cases hm
  · rw [upd_other _ _ e] at hm; exact h m b hm ho
theorem NI.sub {H G G' : AH} (h : NI H G) (hs : ∀ n b, G' n = some b → G n = some b) : NI H G' := fun m b hm ho => h m b (hs m b hm) ho

def Enters (P : Program) (f : FuncId) : Prop := ∀ (args : Array Value) (w : World), (callFunc f args).run P w = .ok (.enter f args) w

/-- What a function does to abstract memory. -/
def SCalls (P : Program) (f : FuncId) (args : List Value) (H : AH) (Bd : Nat) (post : Value → AH → Nat → Prop) : Prop :=
  Enters P f ∧ ∀ (A : Nat → Prop) (ι : Ren) (vs : Array Value) (w : World), Rel A ι H Bd w → SR ι w args vs →
    Calls P f vs w fun e w' => ∃ v r ι' H' Bd', e = .returned v ∧ post r H' Bd' ∧ Bd ≤ Bd' ∧ Rel A ι' H' Bd' w' ∧ VR ι' w' r v ∧ Keep A ι w ι' w' ∧ Agr Bd ι ι' ∧ NI H H'

theorem SCalls.mono {P : Program} {f : FuncId} {args : List Value} {H : AH} {Bd : Nat} {post post' : Value → AH → Nat → Prop} (h : SCalls P f args H Bd post) (hp : ∀ r H' Bd', post r H' Bd' → Bd ≤ Bd' → post' r H' Bd') :
    SCalls P f args H Bd post' :=
  ⟨h.1, fun A ι vs w hr hs => (h.2 A ι vs w hr hs).mono fun _ _ ⟨v, r, ι', H', Bd', h1, h2, h3, h4⟩ => ⟨v, r, ι', H', Bd', h1, hp r H' Bd' h2 h3, h3, h4⟩⟩

/-- One operation, in a world that fits. -/
def OpT (P : Program) (o : Oper) (s : List Value) (H : AH) (Bd : Nat) (K : Value → AH → Nat → Prop) : Prop :=
  ∀ (A : Nat → Prop) (ι : Ren) (a : Act) (w : World), St A ι s H Bd a w → ∀ (Kc : Act → World → Prop) (Q : Exit → Act → World → Prop),
    (∀ v r ι' H' Bd' w', K r H' Bd' → Bd ≤ Bd' → Rel A ι' H' Bd' w' → VR ι' w' r v → Keep A ι w ι' w' → Agr Bd ι ι' → NI H H' → Kc (a.put o.dst v) w') → o.wp P a w Kc Q

abbrev Trans := List Value → AH → Nat → (Value → AH → Nat → Prop) → Prop

/-- What is known of the functions that are called. -/
structure Env (P : Program) where
  S : FuncId → Trans
  ok : ∀ g args H Bd K, S g args H Bd K → SCalls P g args H Bd K

def Env.base (P : Program) : Env P := ⟨fun g args H Bd K => SCalls P g args H Bd K, fun _ _ _ _ _ h => h⟩
def Env.add {P : Program} (E : Env P) (f : FuncId) (W : Trans) (h : ∀ args H Bd K, W args H Bd K → SCalls P f args H Bd K) : Env P :=
  ⟨fun g => if g = f then W else E.S g, fun g args H Bd K hk => by
    by_cases e : g = f
    · subst e; exact h _ _ _ _ (by simpa using hk)
    · exact E.ok g _ _ _ _ (by simpa [e] using hk)⟩

def isSl : Value → Bool
  | .slice .. => true
  | .func (.yield _) _ _ => true
  | _ => false

def astep {P : Program} (E : Env P) (o : Oper) (s : List Value) (H : AH) (Bd : Nat) (K : Value → AH → Nat → Prop) : Prop :=
  match o.op with
  | .load t x => match ev s x with
    | .pointer (some ⟨n, off, none⟩) => Yld (H n) fun b => Yld (aload P t b off) fun v => K v H Bd
    | .func (.method _) _ cs => Yld (aload P t ⟨cs.toList, false⟩ 0) fun v => K v H Bd
    | _ => False
  | .store t x y => match ev s x with
    | .pointer (some ⟨n, off, none⟩) => Yld (H n) fun b =>
        (b.own = true ∧ ask P (sizeOf t) = some (cellsL (ev s y)).length ∧ (cellsL (ev s y)).all cellOK = true ∧ off + (cellsL (ev s y)).length ≤ b.cells.length) ∧
          K undef (upd H n (some ⟨lset b.cells off (cellsL (ev s y)), true⟩)) Bd
    | _ => False
  | .alloc t => Yld (ask P (zeroValue t)) fun z => (cellsL z).all plainV = true ∧ K (.pointer (some ⟨Bd, 0, none⟩)) (upd H Bd (some ⟨cellsL z, true⟩)) (Bd + 1)
  | .box _ x => isUnk (ev s x) = false ∧ K (.pointer (some ⟨Bd, 0, none⟩)) (upd H Bd (some ⟨cellsL (ev s x), true⟩)) (Bd + 1)
  | .buildSlice t len parts => Yld (abuildSlice P t len (parts.toList.map fun x => (x.1, ev s x.2))) fun r => K (.slice (some ⟨Bd, 0, some r.1⟩) len (len + 1)) (upd H Bd (some ⟨r.2, true⟩)) (Bd + 1)
  | .makeSlice t l c => Yld (amake P t (ev s l) (ev s c)) fun r => K (.slice (some ⟨Bd, 0, some r.1⟩) r.2.2.1 (r.2.2.2 + 1)) (upd H Bd (some ⟨r.2.1, true⟩)) (Bd + 1)
  | .convert src dst x => if isSl (ev s x) = true then Yld (astring P H src dst (ev s x)) fun v => K v H Bd else Yld (aval P s (.convert src dst x)) fun v => K v H Bd
  | .call c => match c.callee with
    | .value f => match ev s f with
      | .func (.func g) first caps => first = #[] ∧ E.S g (c.args.toList.map (ev s) ++ caps.toList) H Bd K
      | _ => False
    | .builtin .append => match c.args.toList with
      | [x, y] => Yld (aappend P H c.argTypes.toList (ev s x) (ev s y)) fun r => r.need ≤ 1073741824 ∧ K (appVal r Bd) (appHeap H r Bd) (Bd + 1)
      | _ => False
    | .builtin _ => Yld (aval P s (.call c)) fun v => K v H Bd
    | _ => False
  | .makeMap t none => ∃ rows : Array Value, K (.func (.methodOf 0 "") #[] rows) H Bd
  | .lookup t x i true => Yld (alookup P t (ev s x) (ev s i)) fun b => K (.tuple #[.bool b, .bool true]) H Bd ∧ K (.tuple #[.bool false, .bool false]) H Bd
  | .mapUpdate t x k v => amapset P t (ev s x) (ev s k) (ev s v) = true ∧ K undef H Bd
  | op => Yld (aval P s op) fun v => K v H Bd

theorem opT_value {P : Program} {o : Oper} {s : List Value} {H : AH} {Bd : Nat} {K : Value → AH → Nat → Prop}
    (h : ∀ (A : Nat → Prop) (ι : Ren) (a : Act) (w : World), St A ι s H Bd a w → ∃ v r ι' H' Bd' w', (execOp a.eval o).run P w = .ok (.value v) w' ∧ K r H' Bd' ∧ Bd ≤ Bd' ∧ Rel A ι' H' Bd' w' ∧ VR ι' w' r v ∧ Keep A ι w ι' w' ∧ Agr Bd ι ι' ∧ NI H H') :
    OpT P o s H Bd K := by
  intro A ι a w hst Kc Q hK
  obtain ⟨v, r, ι', H', Bd', w', h1, h2, h3, h4, h5, h6, h7, h8⟩ := h A ι a w hst
  unfold Oper.wp
  rw [h1, Oper.upon_value]
  exact hK v r ι' H' Bd' w' h2 h3 h4 h5 h6 h7 h8

theorem opT_aval {P : Program} {o : Oper} {s : List Value} {H : AH} {Bd : Nat} {K : Value → AH → Nat → Prop} (h : Yld (aval P s o.op) fun v => K v H Bd) : OpT P o s H Bd K := by
  obtain ⟨r, hr, hk⟩ := h
  refine opT_value fun A ι a w hst => ?_
  obtain ⟨v, h1, h2⟩ := aval_sound (P := P) hst.slots hr
  exact ⟨v, r, ι, H, Bd, w, h1, hk, Nat.le_refl _, hst.rel, h2, Keep.refl A w, Agr.refl _ _, NI.refl _⟩

theorem opT_new {P : Program} {o : Oper} {s : List Value} {H : AH} {Bd : Nat} {K : Value → AH → Nat → Prop} {r : Value} {H' : AH} (hk : K r H' (Bd + 1)) (hni : NI H H')
    (h : ∀ (A : Nat → Prop) (ι : Ren) (a : Act) (w : World), St A ι s H Bd a w → Rel A ι H (Bd + 1) w → ι Bd = none → ∃ v ι' w', (execOp a.eval o).run P w = .ok (.value v) w' ∧ Rel A ι' H' (Bd + 1) w' ∧ VR ι' w' r v ∧ Keep A ι w ι' w' ∧ ∀ n, n ≠ Bd → ι' n = ι n) :
    OpT P o s H Bd K := by
  refine opT_value fun A ι a w hst => ?_
  obtain ⟨v, ι', w', h1, h2, h3, h4, h5⟩ := h A ι a w hst (hst.rel.raise (Nat.le_succ _)) (hst.rel.bound _ (Nat.le_refl _))
  exact ⟨v, r, ι', H', Bd + 1, w', h1, hk, Nat.le_succ _, h2, h3, h4, fun n hn => h5 n (Nat.ne_of_lt hn), hni⟩

theorem SR.args {ι : Ren} {w : World} {s : List Value} {a : Act} (hs : SR ι w s a.tmps) (xs : Array Operand) {caps caps' : Array Value} (hsz : caps.size = caps'.size) (hc : ∀ (i : Nat) v v', caps[i]? = some v → caps'[i]? = some v' → VR ι w v v') :
    SR ι w (xs.toList.map (SC.ev s) ++ caps.toList) (xs.map a.eval ++ caps') := by
  obtain ⟨h1, h2⟩ := hs.list xs
  have e1 : (xs.toList.map (SC.ev s)).length = xs.size := by simp
  have e2 : (xs.map a.eval).size = xs.size := by simp
  refine ⟨by simp [hsz], fun i v v' g1 g2 => ?_⟩
  rw [List.getElem?_append, e1] at g1
  rw [Array.getElem?_append, e2] at g2
  split at g1
  · rename_i hi
    rw [if_pos hi] at g2
    exact h2 i v v' (by simpa using g1) g2
  · rename_i hi
    rw [if_neg hi] at g2
    exact hc _ v v' (by simpa using g1) g2

theorem astep_sound {P : Program} (hP : POk P) {E : Env P} {o : Oper} {s : List Value} {H : AH} {Bd : Nat} {K : Value → AH → Nat → Prop} (h : astep E o s H Bd K) : OpT P o s H Bd K := by
  obtain ⟨dst, op, type, pos, after, guard⟩ := o
  unfold astep at h
  simp only at h
  split at h
  · -- load
    rename_i t x
    split at h
    · rename_i n off hx
      obtain ⟨b, hb, v, hv, hk⟩ := h
      refine opT_value fun A ι a w hst => ?_
      have hxv := hst.slots.ev x
      rw [hx] at hxv
      obtain ⟨v', h1, h2⟩ := aload_sound (P := P) hst.rel hb hxv hv
      exact ⟨v', v, ι, H, Bd, w, by simp only [execOp, Sem.run_bind, h1, Result.andThen_ok, Sem.run_pure], hk, Nat.le_refl _, hst.rel, h2, Keep.refl A w, Agr.refl _ _, NI.refl _⟩
    · rename_i m fs cs hx
      obtain ⟨v, hv, hk⟩ := h
      refine opT_value fun A ι a w hst => ?_
      have hxv := hst.slots.ev x
      rw [hx] at hxv
      obtain ⟨v', h1, h2⟩ := vload_sound (P := P) hxv hv
      exact ⟨v', v, ι, H, Bd, w, by simp only [execOp, Sem.run_bind, h1, Result.andThen_ok, Sem.run_pure], hk, Nat.le_refl _, hst.rel, h2, Keep.refl A w, Agr.refl _ _, NI.refl _⟩
    · cases h
  · -- store
    rename_i t x y
    split at h
    · rename_i n off hx
      obtain ⟨b, hb, ⟨ho, hsz, hc, hle⟩, hk⟩ := h
      intro A ι a w hst Kc Q hK
      have hxv := hst.slots.ev x
      rw [hx] at hxv
      obtain ⟨B, base, hι, hxe⟩ := ev_ptr hxv
      have hu : isUnk (ev s y) = false := by
        cases hy : ev s y <;> first | rfl | skip
        rename_i q
        cases q <;> first | rfl | (rw [hy] at hc; simp [cellsL, cellOK] at hc)
      have hy := (hst.slots.ev y).cells hu
      obtain ⟨w', h1, h2, h3⟩ := storeCells_run P (base := base) off _ _ H w b 0 hst.rel hb ho hι hy hc (by omega)
      have hsz' : (a.eval y).cells.size = (cellsL (ev s y)).length := by rw [hy.1]; simp
      unfold Oper.wp
      have : (execOp a.eval ⟨dst, .store t x y, type, pos, after, guard⟩).run P w = .ok .skip w' := by
        simp only [execOp, Instr.storeAt, hxe, Instr.sureAddr, storeVar, Sem.run_bind, Sem.run_pure, Result.andThen_ok, ask_sizeOf hsz w, hsz', ne_eq, not_true_eq_false, if_false, h1]
      rw [this, Oper.upon_skip]
      exact hK undef undef ι _ Bd w' hk (Nat.le_refl _) h2 (.tuple rfl fun i v v' h1 _ => by simp at h1) h3 (Agr.refl _ _) ((NI.refl _).upd _ _)
    · cases h
  · -- alloc
    rename_i t
    obtain ⟨z, hz, hp, hk⟩ := h
    refine opT_new hk ((NI.refl _).upd _ _) fun A ι a w hst hr hn => ?_
    obtain ⟨v, w', ι', h1, h2, h3, h4, h5⟩ := alloc_var (P := P) hr hz hp hn (Nat.lt_succ_self _)
    exact ⟨v, ι', w', by simp only [execOp, Sem.run_bind, h1, Result.andThen_ok, Sem.run_pure], h2, h3, h4, h5⟩
  · -- box
    rename_i t x
    obtain ⟨hu, hk⟩ := h
    refine opT_new hk ((NI.refl _).upd _ _) fun A ι a w hst hr hn => ?_
    obtain ⟨v, w', ι', h1, h2, h3, h4, h5⟩ := new_var (P := P) (t := t) hr (hst.slots.ev x) hu hn (Nat.lt_succ_self _)
    exact ⟨v, ι', w', by simp only [execOp, Sem.run_bind, h1, Result.andThen_ok, Sem.run_pure], h2, h3, h4, h5⟩
  · -- buildSlice
    rename_i t len parts
    obtain ⟨⟨k, L⟩, hb, hk⟩ := h
    refine opT_new hk ((NI.refl _).upd _ _) fun A ι a w hst hr hn => ?_
    obtain ⟨v, w', ι', h1, h2, h3, h4, h5⟩ := abuildSlice_sound (P := P) hr hst.slots parts hn (Nat.lt_succ_self _) hb
    exact ⟨v, ι', w', by simp only [execOp, Sem.run_bind, h1, Result.andThen_ok, Sem.run_pure], h2, h3, h4, h5⟩
  · -- makeSlice
    rename_i t l c
    obtain ⟨⟨k, L, n, c0⟩, hb, hk⟩ := h
    refine opT_new hk ((NI.refl _).upd _ _) fun A ι a w hst hr hn => ?_
    obtain ⟨v, w', ι', h1, h2, h3, h4, h5⟩ := amake_sound hP hr (hst.slots.ev l) (hst.slots.ev c) hn (Nat.lt_succ_self _) hb
    exact ⟨v, ι', w', by simp only [execOp, Sem.run_bind, h1, Result.andThen_ok, Sem.run_pure], h2, h3, h4, h5⟩
  · -- convert
    rename_i src dst' x
    split at h
    · rename_i hsl
      obtain ⟨v, hv, hk⟩ := h
      refine opT_value fun A ι a w hst => ?_
      obtain ⟨h1, h2⟩ := astring_sound (P := P) hst.rel (hst.slots.ev x) (fun s hs => by rw [hs] at hsl; simp [isSl] at hsl) hv
      exact ⟨v, v, ι, H, Bd, w, by simp only [execOp, Sem.run_bind, h1, Result.andThen_ok, Sem.run_pure], hk, Nat.le_refl _, hst.rel, VR.plain h2, Keep.refl A w, Agr.refl _ _, NI.refl _⟩
    · exact opT_aval h
  · -- call
    rename_i c
    obtain ⟨callee, args, ts⟩ := c
    simp only at h
    split at h
    · rename_i f
      split at h
      · rename_i g first caps hf
        obtain ⟨rfl, h⟩ := h
        obtain ⟨hent, hc⟩ := E.ok _ _ _ _ _ h
        intro A ι a w hst Kc Q hK
        have hfv := hst.slots.ev f
        rw [hf] at hfv
        generalize hfe : a.eval f = fv at hfv
        cases hfv with
        | func hsz hcap =>
        rename_i caps'
        have hcalls := hc A ι _ w hst.rel (hst.slots.args args hsz hcap)
        unfold Oper.wp
        have : (execOp a.eval ⟨dst, .call ⟨.value f, args, ts⟩, type, pos, after, guard⟩).run P w = .ok (.enter g (args.map a.eval ++ caps')) w := by
          simp only [execOp, resolve, hfe, Deferred.ofValue, invoke, Sem.run_bind, Sem.run_pure, Result.andThen_ok, Array.empty_append]
          exact hent _ _
        rw [this, Oper.upon_enter]
        refine hcalls.mono fun e w' ⟨v, r, ι', H', Bd', he, h1, h2, h3, h4, h5, h6, h7⟩ => ?_
        subst he
        exact hK v r ι' H' Bd' w' h1 h2 h3 h4 h5 h6 h7
      · cases h
    · split at h
      · rename_i x y hargs
        obtain ⟨r, hr0, hn0, hk⟩ := h
        obtain rfl : args = #[x, y] := by cases args; simp_all
        refine opT_new hk (by unfold appHeap; split <;> first | exact ((NI.refl _).kill _).upd _ _ | exact (NI.refl _).upd _ _) fun A ι a w hst hr hn => ?_
        obtain ⟨v, w', ι', h1, h2, h3, h4, h5⟩ := aappend_sound hP hr type (hst.slots.ev x) (hst.slots.ev y) hn (Nat.lt_succ_self _) hr0 hn0
        have h1' : (Builtin.append_ ts type #[a.eval x, a.eval y]).run P w = .ok v w' := by simpa using h1
        refine ⟨v, ι', w', ?_, h2, h3, h4, h5⟩
        simp only [execOp, resolve, invoke, builtin, Sem.run_bind, Sem.run_pure, Result.andThen_ok, List.map_toArray, List.map_cons, List.map_nil, h1']
      · cases h
    · exact opT_aval h
    · cases h
  · -- makeMap
    rename_i t
    obtain ⟨rows, hk⟩ := h
    refine opT_value fun A ι a w hst => ?_
    obtain ⟨v, ι', w', h1, h2, h3, h4, h5⟩ := amakeMap_sound (P := P) hst.rel t rows
    exact ⟨v, _, ι', H, Bd, w', by simp only [execOp, Option.map_none, Sem.run_bind, h1, Result.andThen_ok, Sem.run_pure], hk, Nat.le_refl _, h2, h3, h4, fun n _ => h5 n, NI.refl _⟩
  · -- lookup
    rename_i t x i
    obtain ⟨b, hb, hk1, hk2⟩ := h
    refine opT_value fun A ι a w hst => ?_
    obtain ⟨v, ok, h1, h2⟩ := alookup_sound (P := P) hst.rel (hst.slots.ev x) (hst.slots.ev i) hb
    have hv : ∀ c d : Bool, VR ι w (.tuple #[.bool c, .bool d]) (.tuple #[.bool c, .bool d]) := fun c d => .tuple rfl fun j u u' g1 g2 => by
      rw [g1] at g2; cases g2
      match j with
      | 0 => cases g1; exact .bool _
      | 1 => cases g1; exact .bool _
      | j + 2 => simp at g1
    refine ⟨_, _, ι, H, Bd, w, by simp only [execOp, Sem.run_bind, h1, Result.andThen_ok, Sem.run_pure], ?_, Nat.le_refl _, hst.rel, hv v ok, Keep.refl A w, Agr.refl _ _, NI.refl _⟩
    rcases h2 with ⟨rfl, rfl⟩ | ⟨rfl, rfl⟩
    · exact hk1
    · exact hk2
  · -- mapUpdate
    rename_i t x k v
    obtain ⟨hm, hk⟩ := h
    intro A ι a w hst Kc Q hK
    obtain ⟨w', h1, h2, h3⟩ := amapset_sound (P := P) hst.rel (hst.slots.ev x) (hst.slots.ev k) (hst.slots.ev v) hm
    unfold Oper.wp
    have : (execOp a.eval ⟨dst, .mapUpdate t x k v, type, pos, after, guard⟩).run P w = .ok .skip w' := by
      simp only [execOp, Sem.run_bind, Sem.run_pure, Result.andThen_ok, h1]
    rw [this, Oper.upon_skip]
    exact hK undef undef ι _ Bd w' hk (Nat.le_refl _) h2 (.tuple rfl fun i v v' h1 _ => by simp at h1) h3 (Agr.refl _ _) (NI.refl _)
  · exact opT_aval h

/-! ### a region in the text's order -/
def sput (s : List Value) (d : Option Nat) (v : Value) : List Value :=
  match d with
  | some d => sset s d v
  | none => s

/-- Where an operation's value goes. -/
def odst : List Oper → Nat → Option Nat
  | [], _ => none
  | o :: _, 0 => o.dst
  | _ :: l, n + 1 => odst l n
theorem odst_eq : ∀ (l : List Oper) (n : Nat), odst l n = (l[n]?).bind (·.dst)
  | [], _ => rfl
  | _ :: _, 0 => rfl
  | _ :: l, n + 1 => by rw [odst, odst_eq l n]; simp

/-- The Bool that a guard asks. -/
def agard (ops : List Oper) (s : List Value) (j : Nat) : Option Value :=
  match odst ops j with
  | some d => some (sget s d)
  | none => none

/-- Two ways. -/
def Cnd (b : Bool) (A B : Prop) : Prop := (b = true → A) ∧ (b = false → B)

def vops {P : Program} (E : Env P) (ops : List Oper) : List Oper → List Value → AH → Nat → (List Value → AH → Nat → Prop) → Prop
  | [], s, H, Bd, Q => Q s H Bd
  | o :: rest, s, H, Bd, Q =>
    match o.guard with
    | none => astep E o s H Bd fun v H Bd => vops E ops rest (sput s o.dst v) H Bd Q
    | some (j, want) =>
      match agard ops s j with
      | some (.bool b) => Cnd (b == want) (astep E o s H Bd fun v H Bd => vops E ops rest (sput s o.dst v) H Bd Q) (vops E ops rest (sput s o.dst undef) H Bd Q)
      | some (.tuple _) => vops E ops rest (sput s o.dst undef) H Bd Q
      | _ => False

theorem SR.sput {ι : Ren} {w : World} {s : List Value} {a : Act} (h : SR ι w s a.tmps) (d : Option Nat) {v v' : Value} (hv : VR ι w v v') : SR ι w (SC.sput s d v) (a.put d v').tmps := by
  cases d with
  | none => exact h
  | some d =>
    simp only [SC.sput, sset_eq]
    exact h.set d hv

theorem vr_undef (ι : Ren) (w : World) : VR ι w undef undef := .tuple rfl fun i v v' h1 _ => by simp at h1

/-- The end of a region's operation, for the one that goes on. -/
theorem St.put {A : Nat → Prop} {ι ι' : Ren} {s : List Value} {H H' : AH} {Bd Bd' : Nat} {a : Act} {w w' : World} (h : St A ι s H Bd a w) (hr : Rel A ι' H' Bd' w') (hk : Keep A ι w ι' w') (hag : Agr Bd ι ι') (d : Option Nat) {r v : Value} (hv : VR ι' w' r v) :
    St A ι' (sput s d r) H' Bd' (a.put d v) w' :=
  ⟨hr, (h.slots.mono (hag.ext h.rel hk.fz) hk.rows).sput d hv, by cases d <;> exact h.defers⟩

theorem agard_sound {ι : Ren} {w : World} {s : List Value} {ops : Array Oper} {a : Act} (h : SR ι w s a.tmps) {j : Nat} {v : Value} (hv : agard ops.toList s j = some v) :
    (∃ v', ((ops[j]?).bind (·.dst)).bind (a.tmps[·]?) = some v' ∧ VR ι w v v') ∨ (v = undef ∧ ((ops[j]?).bind (·.dst)).bind (a.tmps[·]?) = none) := by
  unfold agard at hv
  rw [odst_eq, Array.getElem?_toList] at hv
  cases hd : (ops[j]?).bind (·.dst) with
  | none => rw [hd] at hv; cases hv
  | some d =>
    rw [hd] at hv
    simp only [Option.bind_some, Option.some.injEq, sget_eq] at hv ⊢
    subst hv
    by_cases hlt : d < s.length
    · have hlt' : d < a.tmps.size := h.1 ▸ hlt
      exact .inl ⟨a.tmps[d], by simp [hlt'], by
        rw [List.getD_eq_getElem?_getD, List.getElem?_eq_getElem hlt]
        exact h.2 d _ _ (List.getElem?_eq_getElem hlt) (by simp [hlt'])⟩
    · have hlt' : ¬ d < a.tmps.size := h.1 ▸ hlt
      exact .inr ⟨by rw [List.getD_eq_getElem?_getD, List.getElem?_eq_none (Nat.le_of_not_lt hlt)]; rfl, by simp [hlt']⟩

theorem vops_sound {P : Program} (hP : POk P) {E : Env P} {ops : Array Oper} {Q : List Value → AH → Nat → Prop} {Qc : Exit → Act → World → Prop} :
    ∀ (l : List Oper) (s : List Value) (H : AH) (Bd : Nat), vops E ops.toList l s H Bd Q → ∀ (A : Nat → Prop) (ι : Ren) (a : Act) (w : World), St A ι s H Bd a w →
      (∀ s' H' Bd' ι' a' w', Q s' H' Bd' → Bd ≤ Bd' → St A ι' s' H' Bd' a' w' → Keep A ι w ι' w' → Agr Bd ι ι' → NI H H' → Qc .normal a' w') → wpList P ops Qc l a w
  | [], s, H, Bd, h, A, ι, a, w, hst, hQ => hQ s H Bd ι a w h (Nat.le_refl _) hst (Keep.refl A w) (Agr.refl _ _) (NI.refl _)
  | o :: rest, s, H, Bd, h, A, ι, a, w, hst, hQ => by
    have hstep : ∀ (hs : astep E o s H Bd fun v H Bd => vops E ops.toList rest (sput s o.dst v) H Bd Q), o.wp P a w (wpList P ops Qc rest) Qc := fun hs =>
      astep_sound hP hs A ι a w hst _ _ fun v r ι' H' Bd' w' h1 h2 h3 h4 h5 h6 h7 =>
        vops_sound hP rest _ H' Bd' h1 A ι' _ w' (hst.put h3 h5 h6 o.dst h4) fun s2 H2 Bd2 ι2 a2 w2 g1 g2 g3 g4 g5 g6 =>
          hQ s2 H2 Bd2 ι2 a2 w2 g1 (Nat.le_trans h2 g2) g3 (h5.trans g4) (h6.trans g5 h2) (h7.trans g6)
    have hskip : vops E ops.toList rest (sput s o.dst undef) H Bd Q → wpList P ops Qc rest (a.put o.dst undef) w := fun hs =>
      vops_sound hP rest _ H Bd hs A ι _ w (hst.put hst.rel (Keep.refl A w) (Agr.refl _ _) o.dst (vr_undef ι w)) hQ
    unfold vops at h
    unfold wpList
    cases hg : o.guard with
    | none =>
      rw [hg] at h
      rw [if_pos (by simp [Region.wanted, hg])]
      exact .inl (hstep h)
    | some jw =>
      obtain ⟨j, want⟩ := jw
      rw [hg] at h
      simp only at h
      split at h
      · rename_i b hb
        have hy : yielded ops a.tmps j = some b := by
          rcases agard_sound hst.slots hb with ⟨v', h1, h2⟩ | ⟨h1, _⟩
          · cases h2; simp only [yielded, h1]
          · cases h1
        by_cases hbw : b = want
        · subst hbw
          rw [if_pos (by simp [Region.wanted, hg, hy])]
          exact .inl (hstep (h.1 (by simp)))
        · rw [if_neg (by simp [Region.wanted, hg, hy, hbw])]
          exact hskip (h.2 (by simp [hbw]))
      · rename_i vs hb
        have hy : yielded ops a.tmps j = none := by
          rcases agard_sound hst.slots hb with ⟨v', h1, h2⟩ | ⟨_, h1⟩
          · cases h2; simp only [yielded, h1]
          · simp only [yielded, h1]
        rw [if_neg (by simp [Region.wanted, hg, hy])]
        exact hskip h
      · cases h

end Go.SC
