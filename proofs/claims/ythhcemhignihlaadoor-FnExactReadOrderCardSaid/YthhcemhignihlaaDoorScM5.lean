/- Drawn regions: the steps. -/
import Derived.Test.YthhcemhignihlaaDoorScM4
set_option linter.unusedSimpArgs false
set_option linter.unusedVariables false
namespace Go.SC
open Go

abbrev Ls (listed : Array Bool) (i : Nat) : Bool := listed.getD i false

/-- What is known of an operation that has been worked out and has not run. -/
def EntOK (P : Program) (ops : Array Oper) (B0 : Nat) (H : AH) (pend : List (Nat × List Value)) (e : Ent) : Prop :=
  ∃ o, ops[e.i]? = some o ∧ isEff o.op = false ∧
    ((e.run = true ∧ gdRun ops.toList e.s o.guard ∧ aq P e.s (full B0 H pend) (B0 + e.i) o.op = some (e.v, e.blk) ∧ ∀ c, e.blk = some c → (e.i, c) ∈ pend) ∨
      (e.run = false ∧ gdSkip ops.toList e.s o.guard ∧ e.v = undef ∧ e.blk = none))

def TrEd (ops : Array Oper) : List Ent → Prop
  | [] => True
  | e :: r => (∀ k ∈ edgesOf ops e.i, k ∈ r.map (·.i)) ∧ TrEd ops r

structure Sim {P : Program} (E : Env P) (ops : Array Oper) (s0 : List Value) (B0 : Nat) (H0 : AH) (A : Nat → Prop) (ι0 : Ren) (w0 : World) (Q : List Value → AH → Nat → Prop)
    (listed : Array Bool) (a : Act) (w : World) (tr : List Ent) (rest : List Stp) (H : AH) (Bd : Nat) (pend : List (Nat × List Value)) (wt : List (Nat × Op × List Value × Value)) (ι : Ren) : Prop where
  plan : ∃ seg, PlanOK ops (tr.map (·.i)) seg rest
  trok : TrOK ops s0 tr
  nodup : (tr.map (·.i)).Nodup
  pair : tr.Pairwise fun x y => ∀ p o, ops[x.i]? = some p → ops[y.i]? = some o → p.apart ops o = true ∨ Rch ops x.i y.i
  size : listed.size = ops.size
  sub : ∀ k, Ls listed k = true → k ∈ tr.map (·.i)
  eff : ∀ e ∈ tr, ∀ o, ops[e.i]? = some o → isEff o.op = true → Ls listed e.i = true
  ex : ∀ e ∈ tr, e.i < ops.size
  edges : TrEd ops tr
  closed : ∀ j, Ls listed j = true → ∀ k ∈ edgesOf ops j, Ls listed k = true
  slots : SR ι w (slotsR ops s0 (tr.filter fun e => Ls listed e.i)) a.tmps
  rel : Rel A ι (full B0 H (pend.filter fun p => Ls listed p.1)) Bd w
  bd : B0 + ops.size ≤ Bd
  free : ∀ i, i < ops.size → Ls listed i = false → ι (B0 + i) = none
  ent : ∀ e ∈ tr, Ls listed e.i = false → EntOK P ops B0 H pend e
  pnodup : (pend.map (·.1)).Nodup
  pin : ∀ p ∈ pend, (∃ e ∈ tr, e.i = p.1 ∧ e.blk = some p.2) ∧ H (B0 + p.1) = none ∧ p.1 < ops.size
  wat : ∀ e ∈ tr, Ls listed e.i = false → e.run = true → ∀ o, ops[e.i]? = some o → readsHeap o.op = true → (e.i, o.op, e.s, e.v) ∈ wt
  cond : vd E ops.toList B0 rest (slotsR ops s0 tr) H Bd pend wt Q
  defers : a.defers = []
  keep : Keep A ι0 w0 ι w
  agr : Agr B0 ι0 ι
  ni : NI H0 H

theorem Rch.listed {ops : Array Oper} {listed : Array Bool} (hc : ∀ j, Ls listed j = true → ∀ k ∈ edgesOf ops j, Ls listed k = true) {i j : Nat} (hr : Rch ops i j) (he : ∀ k ∈ edgesOf ops i, Ls listed k = true) : Ls listed j = true := by
  induction hr with
  | direct h => exact he _ h
  | step h _ ih => exact ih (fun k hk => hc _ (he _ h) k hk)

theorem edges_of_ready {ops : Array Oper} {listed : Array Bool} {i : Nat} (h : i ∈ Region.ready .any ops listed) : Ls listed i = false ∧ i < ops.size ∧ (∃ o, ops[i]? = some o) ∧ ∀ k ∈ edgesOf ops i, Ls listed k = true := by
  obtain ⟨h1, o, ho, h2⟩ := mem_ready.1 h
  refine ⟨getD_both h1, (Array.getElem?_eq_some_iff.1 ho).1, ⟨o, ho⟩, fun k hk => ?_⟩
  unfold edgesOf at hk
  rw [ho] at hk
  obtain ⟨e, he, rfl⟩ := List.mem_map.1 hk
  obtain ⟨he1, he2⟩ := List.mem_filter.1 he
  exact h2 e (by simpa using he1) he2
theorem ready_of_edges {ops : Array Oper} {listed : Array Bool} {i : Nat} (hs : listed.size = ops.size) (hi : i < ops.size) (hn : Ls listed i = false) (he : ∀ k ∈ edgesOf ops i, Ls listed k = true) : i ∈ Region.ready .any ops listed := by
  refine mem_ready.2 ⟨getD_in (by omega) hn, ops[i], by simp [hi], fun e hm hb => he e.on ?_⟩
  unfold edgesOf
  rw [show ops[i]? = some ops[i] by simp [hi]]
  exact List.mem_map.2 ⟨e, List.mem_filter.2 ⟨by simpa using hm, hb⟩, rfl⟩

theorem Ls_set_ne {listed : Array Bool} {i j : Nat} (h : i ≠ j) : Ls (listed.setIfInBounds i true) j = Ls listed j := getD_set_ne false h
theorem Ls_set_same {listed : Array Bool} {i : Nat} (h : i < listed.size) : Ls (listed.setIfInBounds i true) i = true := by
  simp [Ls, h]

section
variable {P : Program} {E : Env P} {ops : Array Oper} {s0 : List Value} {B0 : Nat} {H0 : AH} {A : Nat → Prop} {ι0 : Ren} {w0 : World} {Q : List Value → AH → Nat → Prop}
  {listed : Array Bool} {a : Act} {w : World} {tr : List Ent} {rest : List Stp} {H : AH} {Bd : Nat} {pend : List (Nat × List Value)} {wt : List (Nat × Op × List Value × Value)} {ι : Ren}

theorem PlanOK.all {pre : List Nat} {seg : Option (List Nat)} {rest : List Stp} (h : PlanOK ops pre seg rest) : ∀ i, i < ops.size → i ∈ pre ∨ ∃ st ∈ rest, st.i = i := by
  induction h with
  | done h => exact fun i hi => .inl (h i hi)
  | step ho hn he hp hs ha hr ih =>
    intro i hi
    rcases ih i hi with h | ⟨st, h1, h2⟩
    · rcases List.mem_cons.1 h with rfl | h
      · exact .inr ⟨_, List.mem_cons_self, rfl⟩
      · exact .inl h
    · exact .inr ⟨st, by simp [h1], h2⟩

/-- Whatever stands after a change waits for it. -/
theorem PlanOK.waits {pre : List Nat} {seg : Option (List Nat)} {rest : List Stp} (h : PlanOK ops pre seg rest) {listed : Array Bool} : ∀ l, seg = some l → l ≠ [] → (∀ k ∈ l, Ls listed k = false) → (∀ st ∈ rest, Ls listed st.i = false) →
    ∀ st ∈ rest, ∃ k ∈ edgesOf ops st.i, Ls listed k = false := by
  induction h with
  | done h => intro l _ _ _ _ st hst; cases hst
  | @step pre seg i act wat rest o ho hn he hp hs ha hr ih =>
    intro l hl hne hun hrest st hst
    have hi : Ls listed i = false := hrest ⟨i, act, wat⟩ List.mem_cons_self
    rcases List.mem_cons.1 hst with rfl | hst
    · obtain ⟨k, hk, hk2⟩ := hs l hl
      exact ⟨k, hk, hun k hk2⟩
    · by_cases heff : isEff o.op = true
      · exact ih [i] (by rw [if_pos heff]) (by simp) (fun k hk => by simp at hk; rw [hk]; exact hi) (fun st h => hrest st (by simp [h])) st hst
      · exact ih (i :: l) (by rw [if_neg heff, hl]; rfl) (by simp) (fun k hk => by
          rcases List.mem_cons.1 hk with rfl | hk
          · exact hi
          · exact hun k hk) (fun st h => hrest st (by simp [h])) st hst

theorem apart_reads {o p : Oper} {t : Nat} (h : o.apart ops p = true) (ht : t ∈ o.looksAt ops) (hd : p.dst = some t) : False := (Oper.apart_spec h).2.2 t hd ht
theorem apart_reads' {o p : Oper} {t : Nat} (h : o.apart ops p = true) (ht : t ∈ p.looksAt ops) (hd : o.dst = some t) : False := (Oper.apart_spec h).1 t hd ht

theorem dstOf_eq {i : Nat} {o : Oper} (h : ops[i]? = some o) : dstOf ops i = o.dst := by simp [dstOf, h]

/-- A quiet operation is worked out ahead of its time. -/
theorem Sim.advance {st : Stp} (h : Sim E ops s0 B0 H0 A ι0 w0 Q listed a w tr (st :: rest) H Bd pend wt ι) {o : Oper} (ho : ops[st.i]? = some o) (hq : isEff o.op = false) :
    ∃ e pend' wt', Sim E ops s0 B0 H0 A ι0 w0 Q listed a w (e :: tr) rest H Bd pend' wt' ι := by
  obtain ⟨i, act, wat⟩ := st
  simp only at ho
  obtain ⟨seg, hplan⟩ := h.plan
  cases hplan with
  | step ho' hn he hp hs ha hr =>
  rw [ho] at ho'
  cases ho'
  have hcond := h.cond
  unfold vd at hcond
  obtain ⟨o2, ho2, hcond⟩ := opAt_out hcond
  rw [Array.getElem?_toList, ho] at ho2
  cases ho2
  have hun : Ls listed i = false := by
    cases hl : Ls listed i with
    | false => rfl
    | true => exact absurd (h.sub i hl) hn
  have hi : i < ops.size := (Array.getElem?_eq_some_iff.1 ho).1
  have hdst := dstOf_eq ho
  have hHi : H (B0 + i) = none := by
    have hf := h.free i hi hun
    cases hx : H (B0 + i) with
    | none => rfl
    | some b =>
      have hno : ∀ p ∈ pend.filter (fun p => Ls listed p.1), B0 + p.1 ≠ B0 + i := fun p hp e => by
        obtain ⟨h1, h2⟩ := List.mem_filter.1 hp
        have : p.1 = i := by omega
        rw [this, hun] at h2
        cases h2
      obtain ⟨l, hl⟩ := h.rel.mapped ((full_not hno).trans hx)
      rw [hf] at hl
      cases hl
  have hpi : ∀ p ∈ pend, p.1 ≠ i := fun p hp e => by
    obtain ⟨⟨e', he', h1, _⟩, _⟩ := h.pin p hp
    exact hn (by rw [← e, ← h1]; exact List.mem_map_of_mem he')
  have base : ∀ (e : Ent) (pend' : List (Nat × List Value)) (wt' : List (Nat × Op × List Value × Value)), e.i = i → e.s = slotsR ops s0 tr →
      (∀ p ∈ pend, p ∈ pend') → (pend'.filter (fun p => Ls listed p.1) = pend.filter fun p => Ls listed p.1) → Le (full B0 H pend) (full B0 H pend') → (pend'.map (·.1)).Nodup →
      (∀ p ∈ pend', p ∈ pend ∨ (p.1 = i ∧ e.blk = some p.2)) → EntOK P ops B0 H pend' e → (∀ x ∈ wt, x ∈ wt') → (e.run = true → readsHeap o.op = true → (e.i, o.op, e.s, e.v) ∈ wt') →
      vd E ops.toList B0 rest (slotsR ops s0 (e :: tr)) H Bd pend' wt' Q → Sim E ops s0 B0 H0 A ι0 w0 Q listed a w (e :: tr) rest H Bd pend' wt' ι := by
    intro e pend' wt' hei hes hp1 hp2 hp3 hp4 hp5 hent hw1 hw2 hc
    have hfil : ((e :: tr).filter fun e => Ls listed e.i) = tr.filter fun e => Ls listed e.i := by
      rw [List.filter_cons_of_neg (by rw [hei, hun]; simp)]
    refine { plan := ⟨(if isEff o.op = true then some [i] else seg.map (i :: ·)), ?_⟩, trok := ⟨hes, h.trok⟩, nodup := ?_, pair := ?_, size := h.size, sub := ?_, eff := ?_, ex := ?_, edges := ⟨by rw [hei]; exact he, h.edges⟩, closed := h.closed, slots := ?_, rel := ?_, bd := h.bd, free := h.free, ent := ?_, pnodup := hp4, pin := ?_, wat := ?_, cond := hc, defers := h.defers, keep := h.keep, agr := h.agr, ni := h.ni }
    · simp only [List.map_cons, hei]; exact hr
    · simp only [List.map_cons, hei, List.nodup_cons]; exact ⟨hn, h.nodup⟩
    · refine List.Pairwise.cons (fun y hy p q h1 h2 => ?_) h.pair
      rw [hei, ho] at h1
      cases h1
      rw [hei]
      exact hp y.i (List.mem_map_of_mem hy) q h2
    · intro k hk
      simp only [List.map_cons, List.mem_cons]
      exact .inr (h.sub k hk)
    · intro x hx q h1 h2
      rcases List.mem_cons.1 hx with rfl | hx
      · rw [hei, ho] at h1; cases h1; rw [hq] at h2; cases h2
      · exact h.eff x hx q h1 h2
    · intro x hx
      rcases List.mem_cons.1 hx with rfl | hx
      · rw [hei]; exact hi
      · exact h.ex x hx
    · rw [hfil]; exact h.slots
    · rw [hp2]; exact h.rel
    · intro x hx hxu
      rcases List.mem_cons.1 hx with rfl | hx
      · exact hent
      · obtain ⟨q, h1, h2, h3⟩ := h.ent x hx hxu
        refine ⟨q, h1, h2, ?_⟩
        rcases h3 with ⟨g1, g2, g3, g4⟩ | h3
        · exact .inl ⟨g1, g2, aq_mono hp3 g3, fun c hc => hp1 _ (g4 c hc)⟩
        · exact .inr h3
    · intro p hp
      rcases hp5 p hp with hp | ⟨h1, h2⟩
      · obtain ⟨⟨x, hx, g⟩, g2⟩ := h.pin p hp
        exact ⟨⟨x, by simp [hx], g⟩, g2⟩
      · exact ⟨⟨e, by simp, by rw [hei, h1], h2⟩, by rw [h1]; exact hHi, by rw [h1]; exact hi⟩
    · intro x hx hxu hrun q h1 h2
      rcases List.mem_cons.1 hx with rfl | hx
      · rw [hei, ho] at h1; cases h1; exact hw2 hrun h2
      · exact hw1 _ (h.wat x hx hxu hrun q h1 h2)
  rcases gd_cases hcond with ⟨hg, hc⟩ | ⟨hg, hc⟩
  · rw [if_neg (by rw [hq]; simp)] at hc
    obtain ⟨⟨v, blk⟩, haq, hc⟩ := hc
    simp only at hc
    have hs' : slotsR ops s0 (⟨i, slotsR ops s0 tr, v, blk, true⟩ :: tr) = sput (slotsR ops s0 tr) o.dst v := by simp only [slotsR, hdst]
    refine ⟨⟨i, slotsR ops s0 tr, v, blk, true⟩, addP i blk pend, _, base _ _ _ rfl rfl ?_ ?_ ?_ ?_ ?_ ?_ ?_ ?_ (by rw [hs']; exact hc)⟩
    · intro p hp; cases blk with
      | none => exact hp
      | some c => exact List.mem_cons_of_mem _ hp
    · cases blk with
      | none => rfl
      | some c => simp only [addP]; rw [List.filter_cons_of_neg (by simp only [hun]; simp)]
    · cases blk with
      | none => exact Le.refl _
      | some c =>
        simp only [addP, full_cons]
        exact (Le.refl _).fresh (by rw [full_not (fun p hp e => hpi p hp (by omega))]; exact hHi) _
    · cases blk with
      | none => exact h.pnodup
      | some c =>
        simp only [addP, List.map_cons, List.nodup_cons]
        refine ⟨fun hm => ?_, h.pnodup⟩
        obtain ⟨p, hp, e⟩ := List.mem_map.1 hm
        exact hpi p hp e
    · intro p hp
      cases blk with
      | none => exact .inl hp
      | some c =>
        rcases List.mem_cons.1 hp with rfl | hp
        · exact .inr ⟨rfl, rfl⟩
        · exact .inl hp
    · refine ⟨o, ho, hq, .inl ⟨rfl, hg, ?_, fun c hc => ?_⟩⟩
      · cases blk with
        | none => exact haq
        | some c =>
          simp only [addP, full_cons]
          exact aq_mono ((Le.refl _).fresh (by rw [full_not (fun p hp e => hpi p hp (by omega))]; exact hHi) _) haq
      · simp only at hc; subst hc; simp [addP]
    · intro x hx; split
      · exact List.mem_cons_of_mem _ hx
      · exact hx
    · intro _ hh; rw [if_pos hh]; simp
  · have hs' : slotsR ops s0 (⟨i, slotsR ops s0 tr, undef, none, false⟩ :: tr) = sput (slotsR ops s0 tr) o.dst undef := by simp only [slotsR, hdst]
    refine ⟨⟨i, slotsR ops s0 tr, undef, none, false⟩, pend, wt, base _ _ _ rfl rfl (fun _ h => h) rfl (Le.refl _) h.pnodup (fun _ h => .inl h) ⟨o, ho, hq, .inr ⟨rfl, hg, rfl, rfl⟩⟩ (fun _ h => h) (fun h => by cases h) (by rw [hs']; exact hc)⟩
end
end Go.SC
