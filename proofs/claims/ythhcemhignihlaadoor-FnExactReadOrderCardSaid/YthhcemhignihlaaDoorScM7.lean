/- Drawn regions: changes, the end, and the whole. -/
import Derived.Test.YthhcemhignihlaaDoorScM6
set_option linter.unusedSimpArgs false
set_option linter.unusedVariables false
namespace Go.SC
open Go

theorem join_full (B0 : Nat) (H : AH) (L : List (Nat × List Value)) : join (full B0 (fun _ => none) L) H = full B0 H L := by
  funext n
  unfold join full
  cases L.find? (fun p => B0 + p.1 == n) <;> rfl

section
variable {P : Program} {E : Env P} {ops : Array Oper} {s0 : List Value} {B0 : Nat} {H0 : AH} {A : Nat → Prop} {ι0 : Ren} {w0 : World} {Q : List Value → AH → Nat → Prop}
  {listed : Array Bool} {a : Act} {w : World} {tr : List Ent} {rest : List Stp} {H : AH} {Bd : Nat} {pend : List (Nat × List Value)} {wt : List (Nat × Op × List Value × Value)} {ι : Ren}

theorem Sim.pickEff (hP : POk P) {Q' : Exit → Act → World → Prop} {st : Stp} (h : Sim E ops s0 B0 H0 A ι0 w0 Q listed a w tr (st :: rest) H Bd pend wt ι) {o : Oper} (ho : ops[st.i]? = some o) (hq : isEff o.op = true) (hr : st.i ∈ Region.ready .any ops listed) :
    wpOp P ops Q' st.i (fun a' w' => ∃ tr' H' Bd' pend' ι', Sim E ops s0 B0 H0 A ι0 w0 Q (listed.setIfInBounds st.i true) a' w' tr' rest H' Bd' pend' wt ι') a w := by
  obtain ⟨i, act, wat⟩ := st
  simp only at ho hr ⊢
  obtain ⟨hun, hi, _, hed⟩ := edges_of_ready hr
  obtain ⟨seg, hplan⟩ := h.plan
  cases hplan with
  | step ho' hn he hp hs ha hrest =>
  rw [ho] at ho'
  cases ho'
  have hcond := h.cond
  unfold vd at hcond
  obtain ⟨o2, ho2, hcond⟩ := opAt_out hcond
  rw [Array.getElem?_toList, ho] at ho2
  cases ho2
  obtain ⟨ha1, ha2⟩ := ha hq
  have hrch : ∀ {j}, Rch ops i j → Ls listed j = true := fun hj => hj.listed h.closed hed
  have hlt : i < listed.size := by rw [h.size]; exact hi
  have hne : ∀ x ∈ tr, x.i ≠ i := fun x hx e => hn (by rw [← e]; exact List.mem_map_of_mem hx)
  have hpne : ∀ p ∈ pend, p.1 ≠ i := fun p hp e => by
    obtain ⟨⟨x, hx, g1, _⟩, _⟩ := h.pin p hp
    exact hne x hx (g1.trans e)
  have hagree : ∀ t, t ∈ o.looksAt ops → sget (slotsR ops s0 tr) t = sget (slotsR ops s0 (tr.filter fun x => Ls listed x.i)) t := by
    intro t hto
    rw [slotsR_get, slotsR_get, find?_filter]
    intro x hx hd
    obtain ⟨p, hpx⟩ := h.op hx
    rw [dstOf_eq hpx] at hd
    rcases hp x.i (List.mem_map_of_mem hx) p hpx with hap | hap
    · exact (apart_reads hap hto (by simpa using hd)).elim
    · exact hrch hap
  have base : ∀ (r v : Value) (ι' : Ren) (w' : World) (H' : AH) (Bd' : Nat) (pend' : List (Nat × List Value)), Rel A ι' (full B0 H' (pend'.filter fun p => Ls listed p.1)) Bd' w' → VR ι' w' r v → Keep A ι w ι' w' → Agr Bd ι ι' → Ext ι ι' → NI H0 H' → Bd ≤ Bd' →
      (∀ p ∈ pend', p ∈ pend ∧ H' (B0 + p.1) = none) → (pend'.map (·.1)).Nodup → (∀ x ∈ tr, Ls listed x.i = false → EntOK P ops B0 H' pend' x) → vd E ops.toList B0 rest (sput (slotsR ops s0 tr) o.dst r) H' Bd' pend' wt Q →
      ∃ tr' H' Bd' pend' ι', Sim E ops s0 B0 H0 A ι0 w0 Q (listed.setIfInBounds i true) (a.put o.dst v) w' tr' rest H' Bd' pend' wt ι' := by
    intro r v ι' w' H' Bd' pend' hrel hv hk hag hx hni hle hpin hpn hent hc
    have hf : (tr.filter fun x => Ls (listed.setIfInBounds i true) x.i) = tr.filter fun x => Ls listed x.i := List.filter_congr fun x hx => Ls_set_ne (Ne.symm (hne x hx))
    have hpf : (pend'.filter fun p => Ls (listed.setIfInBounds i true) p.1) = pend'.filter fun p => Ls listed p.1 := List.filter_congr fun p hp => Ls_set_ne (Ne.symm (hpne p (hpin p hp).1))
    refine ⟨⟨i, slotsR ops s0 tr, r, none, true⟩ :: tr, H', Bd', pend', ι', { plan := ⟨_, hrest⟩, trok := ⟨rfl, h.trok⟩, nodup := List.nodup_cons.2 ⟨hn, h.nodup⟩, pair := List.Pairwise.cons (fun y hy p q h1 h2 => ?_) h.pair, size := by rw [Array.size_setIfInBounds]; exact h.size, sub := ?_, eff := ?_, ex := ?_, edges := ⟨he, h.edges⟩, closed := ?_, slots := ?_, rel := by rw [hpf]; exact hrel, bd := Nat.le_trans h.bd hle, free := ?_, ent := ?_, pnodup := hpn, pin := ?_, wat := ?_, cond := ?_, defers := ?_, keep := h.keep.trans hk, agr := h.agr.trans hag (by have := h.bd; omega), ni := hni }⟩
    · simp only at h1
      rw [ho] at h1
      cases h1
      exact hp y.i (List.mem_map_of_mem hy) q h2
    · intro k hk
      simp only [List.map_cons, List.mem_cons]
      rcases Ls_set hk with rfl | hk
      · exact .inl rfl
      · exact .inr (h.sub k hk)
    · intro x hx p h1 h2
      rcases List.mem_cons.1 hx with rfl | hx
      · exact Ls_set_same hlt
      · exact Ls_mono (h.eff x hx p h1 h2)
    · intro x hx
      rcases List.mem_cons.1 hx with rfl | hx
      · exact hi
      · exact h.ex x hx
    · intro j hj k hk
      rcases Ls_set hj with rfl | hj
      · exact Ls_mono (hed k hk)
      · exact Ls_mono (h.closed j hj k hk)
    · rw [List.filter_cons_of_pos (p := fun x : Ent => Ls (listed.setIfInBounds i true) x.i) (by exact Ls_set_same hlt), hf]
      simp only [slotsR, dstOf_eq ho]
      exact (h.slots.mono hx hk.rows).sput o.dst hv
    · intro j hj hu
      rw [hag _ (by have := h.bd; omega)]
      exact h.free j hj (Ls_unset hu)
    · intro x hx hu
      rcases List.mem_cons.1 hx with rfl | hx
      · rw [Ls_set_same hlt] at hu; cases hu
      · exact hent x hx (Ls_unset hu)
    · intro p hp
      obtain ⟨g1, g2⟩ := hpin p hp
      obtain ⟨⟨x, hx, g⟩, _, g3⟩ := h.pin p g1
      exact ⟨⟨x, List.mem_cons_of_mem _ hx, g⟩, g2, g3⟩
    · intro x hx hu
      rcases List.mem_cons.1 hx with rfl | hx
      · rw [Ls_set_same hlt] at hu; cases hu
      · exact h.wat x hx (Ls_unset hu)
    · simp only [slotsR, dstOf_eq ho]; exact hc
    · have := h.defers
      cases o.dst <;> exact this
  unfold wpOp
  simp only [ho]
  rcases gd_cases hcond with ⟨hg, hc⟩ | ⟨hg, hc⟩
  · rw [if_pos (gdRun_wanted h.slots (gdRun_agree hagree hg))]
    refine .inl ?_
    rw [if_pos hq] at hc
    rw [astep_congr_eff hq (fun x hx => ev_agree fun t ex => hagree t (looks_op hx ex))] at hc
    -- the blocks that are set aside
    have hFo : ∀ n b, full B0 (fun _ => none) ((pend.filter fun p => !act.contains p.1).filter fun p => Ls listed p.1) n = some b → ∃ p ∈ pend, act.contains p.1 = false ∧ B0 + p.1 = n ∧ b = ⟨p.2, true⟩ := by
      intro n b hb
      by_cases hx : ∃ p ∈ ((pend.filter fun p => !act.contains p.1).filter fun p => Ls listed p.1), B0 + p.1 = n
      · obtain ⟨p, hp, rfl⟩ := hx
        rw [full_mem (nodup_filter (nodup_filter h.pnodup _) _) hp] at hb
        obtain ⟨g1, g2⟩ := List.mem_filter.1 (List.mem_filter.1 hp).1
        exact ⟨p, g1, by simpa using g2, rfl, by cases hb; rfl⟩
      · rw [full_not fun p hp e => hx ⟨p, hp, e⟩] at hb
        cases hb
    have hHc : full B0 H (pend.filter fun p => Ls listed p.1) = join (full B0 (fun _ => none) ((pend.filter fun p => !act.contains p.1).filter fun p => Ls listed p.1)) (full B0 H (pend.filter fun p => act.contains p.1)) := by
      funext n
      by_cases hx : ∃ p ∈ pend, B0 + p.1 = n ∧ Ls listed p.1 = true
      · obtain ⟨p, hp, rfl, hl⟩ := hx
        rw [full_mem (nodup_filter h.pnodup _) (List.mem_filter.2 ⟨hp, hl⟩)]
        cases hact : act.contains p.1 with
        | true =>
          rw [join_none, full_mem (nodup_filter h.pnodup _) (List.mem_filter.2 ⟨hp, hact⟩)]
          cases hf : full B0 (fun _ => none) ((pend.filter fun p => !act.contains p.1).filter fun p => Ls listed p.1) (B0 + p.1) with
          | none => rfl
          | some b =>
            obtain ⟨q, hq1, hq2, hq3, _⟩ := hFo _ b hf
            have hqp : q.1 = p.1 := by omega
            rw [hqp, hact] at hq2
            cases hq2
        | false =>
          rw [join_some]
          exact full_mem (nodup_filter (nodup_filter h.pnodup _) _) (List.mem_filter.2 ⟨List.mem_filter.2 ⟨hp, by rw [hact]; rfl⟩, hl⟩)
      · rw [full_not fun p hp e => hx ⟨p, (List.mem_filter.1 hp).1, e, (List.mem_filter.1 hp).2⟩, join_none, full_not]
        · intro p hp e
          obtain ⟨g1, g2⟩ := List.mem_filter.1 hp
          exact hx ⟨p, g1, e, hrch (ha1 p.1 (by simpa using g2))⟩
        · rw [full_not]
          intro p hp e
          obtain ⟨g1, g2⟩ := List.mem_filter.1 hp
          exact hx ⟨p, (List.mem_filter.1 g1).1, e, g2⟩
    have hd : ∀ n b, full B0 (fun _ => none) ((pend.filter fun p => !act.contains p.1).filter fun p => Ls listed p.1) n = some b → full B0 H (pend.filter fun p => act.contains p.1) n = none := by
      intro n b hb
      obtain ⟨p, hp, hpa, rfl, _⟩ := hFo n b hb
      rw [full_not, (h.pin p hp).2.1]
      intro q hq e
      obtain ⟨g1, g2⟩ := List.mem_filter.1 hq
      have hqp : q.1 = p.1 := by omega
      rw [hqp, hpa] at g2
      cases g2
    have hrel0 := h.rel
    rw [hHc] at hrel0
    refine astep_sound hP hc _ ι a w ⟨frame_in hrel0 hd, h.slots, h.defers⟩ _ _ fun v r ι' H' Bd' w' hk hle hr' hv hkeep hag hni => ?_
    obtain ⟨hk1, hk2, hk3⟩ := hk
    have hcl := clearOf_out hk1
    have hout := frame_out hrel0 hd (fun n b hb => by obtain ⟨p, _, _, _, rfl⟩ := hFo n b hb; rfl) hr' hkeep hag hni (fun n b hb => by
      obtain ⟨p, hp, hpa, rfl, _⟩ := hFo n b hb
      exact hcl p (List.mem_filter.2 ⟨hp, by rw [hpa]; rfl⟩))
    rw [join_full] at hout
    refine base r v ι' w' H' Bd' _ hout hv (hkeep.wide fun _ hA => hA.1) hag (hag.ext hrel0 hkeep.fz) ((h.ni.full B0 _).trans hni) hle (fun p hp => ⟨(List.mem_filter.1 hp).1, hcl p hp⟩) (nodup_filter h.pnodup _) (fun x hx hu => ?_) hk3
    obtain ⟨p, g1, g2, g3⟩ := h.ent x hx hu
    refine ⟨p, g1, g2, ?_⟩
    rcases g3 with ⟨q1, q2, q3, q4⟩ | g3
    · refine .inl ⟨q1, q2, ?_, fun c hc => List.mem_filter.2 ⟨q4 c hc, ?_⟩⟩
      · cases hh : readsHeap p.op with
        | false => rw [aq_noheap hh]; exact q3
        | true =>
          rcases ha2 x.i (List.mem_map_of_mem hx) p g1 hh with hw | hw
          · have hwt := watched_out hk2 (h.wat x hx hu q1 p g1 hh) hw
            simp only at hwt
            have hb : x.blk = none := by
              cases hop : p.op <;> rw [hop] at hh <;> simp [readsHeap] at hh
              · rw [hop] at q3
                simp only [aq] at q3
                split at q3
                · split at q3
                  · obtain ⟨_, _, e⟩ := Option.map_eq_some_iff.1 q3; exact (Prod.mk.inj e).2.symm
                  · cases q3
                · obtain ⟨_, _, e⟩ := Option.map_eq_some_iff.1 q3; exact (Prod.mk.inj e).2.symm
                · cases q3
              · rw [hop] at q3
                simp only [aq] at q3
                obtain ⟨_, _, e⟩ := Option.map_eq_some_iff.1 q3; exact (Prod.mk.inj e).2.symm
            rw [aq_heap_m hh (m' := 0), hwt, hb]
          · rw [hrch hw] at hu; cases hu
      · cases hact : act.contains x.i with
        | false => rfl
        | true => rw [hrch (ha1 x.i (by simpa using hact))] at hu; cases hu
    · exact .inr g3
  · rw [if_neg (by rw [gdSkip_wanted h.slots (gdSkip_agree hagree hg)]; simp)]
    exact base undef undef ι w H Bd pend h.rel (vr_undef ι w) (Keep.refl A w) (Agr.refl _ _) (Ext.refl ι) h.ni (Nat.le_refl _) (fun p hp => ⟨hp, (h.pin p hp).2.1⟩) h.pnodup h.ent hc
end
end Go.SC
