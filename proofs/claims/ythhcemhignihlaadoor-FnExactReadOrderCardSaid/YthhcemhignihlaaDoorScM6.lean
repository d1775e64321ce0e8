/- Drawn regions: whatever comes first. -/
import Derived.Test.YthhcemhignihlaaDoorScM5
set_option linter.unusedSimpArgs false
set_option linter.unusedVariables false
namespace Go.SC
open Go

theorem map_nodup_inj {α β : Type} {f : α → β} : ∀ {L : List α}, (L.map f).Nodup → ∀ {x y}, x ∈ L → y ∈ L → f x = f y → x = y
  | [], _, x, y, h, _, _ => by cases h
  | r :: L, hn, p, q, hp, hq, e => by
    simp only [List.map_cons, List.nodup_cons] at hn
    rcases List.mem_cons.1 hp with rfl | hp' <;> rcases List.mem_cons.1 hq with rfl | hq'
    · rfl
    · exact absurd (by rw [e]; exact List.mem_map_of_mem hq') hn.1
    · exact absurd (by rw [← e]; exact List.mem_map_of_mem hp') hn.1
    · exact map_nodup_inj hn.2 hp' hq' e

theorem TrOK.at_ {ops : Array Oper} {s0 : List Value} {e : Ent} {tr2 : List Ent} : ∀ {tr1 : List Ent}, TrOK ops s0 (tr1 ++ e :: tr2) → e.s = slotsR ops s0 tr2
  | [], h => h.1
  | _ :: tr1, h => TrOK.at_ (tr1 := tr1) h.2

theorem Ls_mono {listed : Array Bool} {i j : Nat} (h : Ls listed j = true) : Ls (listed.setIfInBounds i true) j = true := getD_set_true h
theorem Ls_unset {listed : Array Bool} {i j : Nat} (h : Ls (listed.setIfInBounds i true) j = false) : Ls listed j = false := by
  cases hl : Ls listed j with
  | false => rfl
  | true => rw [Ls_mono hl] at h; cases h
theorem Ls_set {listed : Array Bool} {i j : Nat} (h : Ls (listed.setIfInBounds i true) j = true) : j = i ∨ Ls listed j = true := by
  by_cases e : i = j
  · exact .inl e.symm
  · rw [Ls_set_ne e] at h; exact .inr h

section
variable {P : Program} {E : Env P} {ops : Array Oper} {s0 : List Value} {B0 : Nat} {H0 : AH} {A : Nat → Prop} {ι0 : Ren} {w0 : World} {Q : List Value → AH → Nat → Prop}
  {listed : Array Bool} {a : Act} {w : World} {tr : List Ent} {rest : List Stp} {H : AH} {Bd : Nat} {pend : List (Nat × List Value)} {wt : List (Nat × Op × List Value × Value)} {ι : Ren}

/-- Blocks that are listed, and those that are not yet. -/
theorem Sim.sees (h : Sim E ops s0 B0 H0 A ι0 w0 Q listed a w tr rest H Bd pend wt ι) : ∀ n l, ι n = some l → full B0 H (pend.filter fun p => Ls listed p.1) n = full B0 H pend n := by
  intro n l hl
  by_cases hx : ∃ p ∈ pend, B0 + p.1 = n
  · obtain ⟨p, hp, rfl⟩ := hx
    rw [full_mem h.pnodup hp]
    cases hls : Ls listed p.1 with
    | false => rw [h.free p.1 (h.pin p hp).2.2 hls] at hl; cases hl
    | true => exact full_mem (nodup_filter h.pnodup _) (List.mem_filter.2 ⟨hp, hls⟩)
  · rw [full_not fun p hp e => hx ⟨p, hp, e⟩, full_not fun p hp e => hx ⟨p, (List.mem_filter.1 hp).1, e⟩]

/-- What is newer than an operation that has not run, and must not come ahead of it, has not run. -/
theorem Sim.newer (h : Sim E ops s0 B0 H0 A ι0 w0 Q listed a w tr rest H Bd pend wt ι) {tr1 tr2 : List Ent} {e : Ent} (ht : tr = tr1 ++ e :: tr2) (hun : Ls listed e.i = false) {x : Ent} (hx : x ∈ tr1) (hl : Ls listed x.i = true) {p o : Oper} (hp : ops[x.i]? = some p) (ho : ops[e.i]? = some o) : p.apart ops o = true := by
  subst ht
  have hpair := (List.pairwise_append.1 h.pair).2.2 x hx e List.mem_cons_self p o hp ho
  rcases hpair with hpair | hr
  · exact hpair
  · have := hr.listed h.closed (h.closed x.i hl)
    rw [hun] at this
    cases this
theorem Sim.older (h : Sim E ops s0 B0 H0 A ι0 w0 Q listed a w tr rest H Bd pend wt ι) {tr1 tr2 : List Ent} {e : Ent} (ht : tr = tr1 ++ e :: tr2) (he : ∀ k ∈ edgesOf ops e.i, Ls listed k = true) {x : Ent} (hx : x ∈ tr2) (hl : Ls listed x.i = false) {p o : Oper} (hp : ops[x.i]? = some p) (ho : ops[e.i]? = some o) : o.apart ops p = true := by
  subst ht
  have hpair := (List.pairwise_cons.1 (List.pairwise_append.1 h.pair).2.1).1 x hx o p ho hp
  rcases hpair with hpair | hr
  · exact hpair
  · have := hr.listed h.closed he
    rw [hl] at this
    cases this

theorem Sim.op (h : Sim E ops s0 B0 H0 A ι0 w0 Q listed a w tr rest H Bd pend wt ι) {x : Ent} (hx : x ∈ tr) : ∃ p, ops[x.i]? = some p := ⟨ops[x.i]'(h.ex x hx), by simp [h.ex x hx]⟩

/-- A quiet operation runs that has been worked out. -/
theorem Sim.pickQuiet (hP : POk P) {Q' : Exit → Act → World → Prop} (h : Sim E ops s0 B0 H0 A ι0 w0 Q listed a w tr rest H Bd pend wt ι) {e : Ent} (he : e ∈ tr) (hr : e.i ∈ Region.ready .any ops listed) :
    wpOp P ops Q' e.i (fun a' w' => ∃ ι', Sim E ops s0 B0 H0 A ι0 w0 Q (listed.setIfInBounds e.i true) a' w' tr rest H Bd pend wt ι') a w := by
  obtain ⟨hun, hi, ⟨o, ho⟩, hed⟩ := edges_of_ready hr
  obtain ⟨tr1, tr2, ht⟩ := List.append_of_mem he
  have hs := TrOK.at_ (ht ▸ h.trok)
  have hnd : (tr.map (·.i)).Nodup := h.nodup
  have hne1 : ∀ x ∈ tr1, x.i ≠ e.i := fun x hx hxe => by
    subst ht
    rw [List.map_append, List.map_cons] at hnd
    exact (List.nodup_append.1 hnd).2.2 _ (List.mem_map_of_mem hx) _ (by rw [hxe]; exact List.mem_cons_self) rfl
  have hne2 : ∀ x ∈ tr2, x.i ≠ e.i := fun x hx hxe => by
    subst ht
    rw [List.map_append, List.map_cons] at hnd
    have := (List.nodup_cons.1 (List.nodup_append.1 hnd).2.1).1
    exact this (by rw [← hxe]; exact List.mem_map_of_mem hx)
  have hm1 : ∀ x ∈ tr1, x ∈ tr := fun x hx => by rw [ht]; simp [hx]
  have hm2 : ∀ x ∈ tr2, x ∈ tr := fun x hx => by rw [ht]; simp [hx]
  have hfil : (tr.filter fun x => Ls listed x.i) = (tr1.filter fun x => Ls listed x.i) ++ tr2.filter fun x => Ls listed x.i := by
    rw [ht, List.filter_append, List.filter_cons_of_neg (by rw [hun]; simp)]
  have hfil' : (tr.filter fun x => Ls (listed.setIfInBounds e.i true) x.i) = (tr1.filter fun x => Ls listed x.i) ++ e :: tr2.filter fun x => Ls listed x.i := by
    have hlt : e.i < listed.size := by rw [h.size]; exact hi
    rw [ht, List.filter_append, List.filter_cons_of_pos (p := fun x : Ent => Ls (listed.setIfInBounds e.i true) x.i) (by exact Ls_set_same hlt)]
    rw [List.filter_congr (p := fun x => Ls (listed.setIfInBounds e.i true) x.i) (l := tr1) (fun x hx => Ls_set_ne (Ne.symm (hne1 x hx))), List.filter_congr (p := fun x => Ls (listed.setIfInBounds e.i true) x.i) (fun x hx => Ls_set_ne (Ne.symm (hne2 x hx)))]
  -- what it looks at
  have hagree : ∀ t, t ∈ o.looksAt ops → sget e.s t = sget (slotsR ops s0 (tr.filter fun x => Ls listed x.i)) t := by
    intro t hto
    rw [hs, slotsR_get, slotsR_get, hfil, List.find?_append, find?_filter_none, Option.none_or, find?_filter]
    · intro x hx hd
      cases hl : Ls listed x.i with
      | true => rfl
      | false =>
        obtain ⟨p, hp⟩ := h.op (hm2 x hx)
        have := h.older ht hed hx hl hp ho
        rw [dstOf_eq hp] at hd
        exact (apart_reads this hto (by simpa using hd)).elim
    · intro x hx hd
      cases hl : Ls listed x.i with
      | false => rfl
      | true =>
        obtain ⟨p, hp⟩ := h.op (hm1 x hx)
        have := h.newer ht hun hx hl hp ho
        rw [dstOf_eq hp] at hd
        exact (apart_reads' this hto (by simpa using hd)).elim
  -- the slots afterwards
  have hslots : slotsR ops s0 (tr.filter fun x => Ls (listed.setIfInBounds e.i true) x.i) = sput (slotsR ops s0 (tr.filter fun x => Ls listed x.i)) o.dst e.v := by
    refine sget_ext (by rw [sput_length, slotsR_length, slotsR_length]) fun t => ?_
    rw [sput_get, slotsR_get, slotsR_length, hfil', List.find?_append, List.find?_cons]
    by_cases hd : o.dst = some t
    · have hn : (tr1.filter fun x => Ls listed x.i).find? (fun x => dstOf ops x.i == some t) = none := find?_filter_none _ _ _ fun x hx hdx => by
        cases hl : Ls listed x.i with
        | false => rfl
        | true =>
          obtain ⟨p, hp⟩ := h.op (hm1 x hx)
          have := h.newer ht hun hx hl hp ho
          rw [dstOf_eq hp] at hdx
          exact ((Oper.apart_spec this).2.1 t (by simpa using hdx) hd).elim
      rw [hn, Option.none_or, if_pos hd]
      have : (dstOf ops e.i == some t) = true := by rw [dstOf_eq ho, hd]; simp
      rw [this]
    · have : (dstOf ops e.i == some t) = false := by rw [dstOf_eq ho]; simpa using hd
      rw [this, if_neg hd, slotsR_get, hfil, List.find?_append]
  -- the rest
  have done : ∀ (ι' : Ren) (v' : Value) (w' : World), (∀ n, n ≠ B0 + e.i → ι' n = ι n) → Rel A ι' (full B0 H (pend.filter fun p => Ls (listed.setIfInBounds e.i true) p.1)) Bd w' → VR ι' w' e.v v' → Keep A ι w ι' w' →
      Sim E ops s0 B0 H0 A ι0 w0 Q (listed.setIfInBounds e.i true) (a.put o.dst v') w' tr rest H Bd pend wt ι' := by
    intro ι' v' w' hι hrel hv hk
    have hx : Ext ι ι' := ⟨fun n l hl => by
      by_cases en : n = B0 + e.i
      · rw [en, h.free e.i hi hun] at hl; cases hl
      · rw [hι n en, hl], hk.fz⟩
    refine { plan := h.plan, trok := h.trok, nodup := h.nodup, pair := h.pair, size := by rw [Array.size_setIfInBounds]; exact h.size, sub := ?_, eff := fun x hx p hp hq => Ls_mono (h.eff x hx p hp hq), ex := h.ex, edges := h.edges, closed := ?_, slots := ?_, rel := hrel, bd := h.bd, free := ?_, ent := fun x hx hu => h.ent x hx (Ls_unset hu), pnodup := h.pnodup, pin := h.pin, wat := fun x hx hu => h.wat x hx (Ls_unset hu), cond := h.cond, defers := ?_, keep := h.keep.trans hk, agr := ?_, ni := h.ni }
    · intro k hk
      rcases Ls_set hk with rfl | hk
      · exact List.mem_map_of_mem he
      · exact h.sub k hk
    · intro j hj k hk
      rcases Ls_set hj with rfl | hj
      · exact Ls_mono (hed k hk)
      · exact Ls_mono (h.closed j hj k hk)
    · rw [hslots]
      exact (h.slots.mono hx hk.rows).sput o.dst hv
    · intro j hj hu
      have hje : j ≠ e.i := fun x => by
        subst x
        rw [Ls_set_same (by rw [h.size]; exact hi)] at hu
        cases hu
      rw [hι _ (by omega)]
      exact h.free j hj (Ls_unset hu)
    · have := h.defers
      cases o.dst <;> exact this
    · exact fun n hn => (hι n (by omega)).trans (h.agr n hn)
  obtain ⟨o', ho', hq, hent⟩ := h.ent e he hun
  rw [ho] at ho'
  cases ho'
  unfold wpOp
  simp only [ho]
  rcases hent with ⟨hrun, hg, haq, hblk⟩ | ⟨hrun, hg, hv, hblk⟩
  · rw [if_pos (gdRun_wanted h.slots (gdRun_agree hagree hg))]
    refine .inl ?_
    rw [aq_congr (s' := slotsR ops s0 (tr.filter fun x => Ls listed x.i)) (fun x hx => ev_agree fun t ex => hagree t (looks_op hx ex))] at haq
    obtain ⟨v', ι', w', h1, h2, h3, h4, h5, h6⟩ := aq_run hP h.rel h.slots h.sees (h.free e.i hi hun) (by have := h.bd; omega) haq
    unfold Oper.wp
    rw [h1, Oper.upon_value]
    refine ⟨ι', done ι' v' w' h5 ?_ h3 h4⟩
    have hfeq : addB (full B0 H (pend.filter fun p => Ls listed p.1)) (B0 + e.i) e.blk = full B0 H (pend.filter fun p => Ls (listed.setIfInBounds e.i true) p.1) := by
      cases hb : e.blk with
      | none =>
        simp only [addB]
        congr 1
        refine List.filter_congr fun p hp => ?_
        refine (Ls_set_ne fun ep => ?_).symm
        obtain ⟨⟨x, hx, g1, g2⟩, _⟩ := h.pin p hp
        have := map_nodup_inj h.nodup hx he (g1.trans ep.symm)
        rw [this, hb] at g2
        cases g2
      | some c =>
        simp only [addB]
        funext n
        by_cases hn : n = B0 + e.i
        · subst hn
          rw [upd_same]
          exact (full_mem (p := (e.i, c)) (nodup_filter h.pnodup _) (List.mem_filter.2 ⟨hblk c hb, Ls_set_same (by rw [h.size]; exact hi)⟩)).symm
        · rw [upd_other _ _ hn]
          by_cases hx : ∃ p ∈ pend, B0 + p.1 = n ∧ Ls listed p.1 = true
          · obtain ⟨p, hp, rfl, hl⟩ := hx
            rw [full_mem (nodup_filter h.pnodup _) (List.mem_filter.2 ⟨hp, hl⟩), full_mem (nodup_filter h.pnodup _) (List.mem_filter.2 ⟨hp, Ls_mono hl⟩)]
          · rw [full_not, full_not]
            · intro p hp ep
              obtain ⟨g1, g2⟩ := List.mem_filter.1 hp
              rcases Ls_set g2 with g2 | g2
              · exact hn (by rw [← ep, g2])
              · exact hx ⟨p, g1, ep, g2⟩
            · intro p hp ep
              obtain ⟨g1, g2⟩ := List.mem_filter.1 hp
              exact hx ⟨p, g1, ep, g2⟩
    rw [← hfeq]
    exact h2
  · rw [if_neg (by rw [gdSkip_wanted h.slots (gdSkip_agree hagree hg)]; simp)]
    refine ⟨ι, done ι undef w (fun _ _ => rfl) ?_ (by rw [hv]; exact vr_undef ι w) (Keep.refl A w)⟩
    have : (pend.filter fun p => Ls (listed.setIfInBounds e.i true) p.1) = pend.filter fun p => Ls listed p.1 := by
      refine List.filter_congr fun p hp => Ls_set_ne fun ep => ?_
      obtain ⟨⟨x, hx, g1, g2⟩, _⟩ := h.pin p hp
      have := map_nodup_inj h.nodup hx he (g1.trans ep.symm)
      rw [this, hblk] at g2
      cases g2
    rw [this]
    exact h.rel
end
end Go.SC
