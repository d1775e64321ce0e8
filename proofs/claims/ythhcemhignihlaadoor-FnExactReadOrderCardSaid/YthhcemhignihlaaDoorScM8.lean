/- Drawn regions: the whole. -/
import Derived.Test.YthhcemhignihlaaDoorScM7
set_option linter.unusedSimpArgs false
set_option linter.unusedVariables false
namespace Go.SC
open Go

def cntL (n : Nat) (listed : Array Bool) : Nat := (List.range n).countP fun k => !Ls listed k
theorem cntL_set {listed : Array Bool} {i : Nat} (hi : i < listed.size) (hu : Ls listed i = false) : ∀ n, (i < n → cntL n (listed.setIfInBounds i true) + 1 = cntL n listed) ∧ (n ≤ i → cntL n (listed.setIfInBounds i true) = cntL n listed)
  | 0 => ⟨fun h => by omega, fun _ => rfl⟩
  | n + 1 => by
    obtain ⟨h1, h2⟩ := cntL_set hi hu n
    have hstep : ∀ l : Array Bool, cntL (n + 1) l = cntL n l + if (!Ls l n) = true then 1 else 0 := fun l => by
      unfold cntL
      rw [List.range_succ, List.countP_append]
      simp [List.countP_cons]
    rw [hstep, hstep]
    constructor
    · intro h
      by_cases e : i = n
      · subst e
        rw [h2 (Nat.le_refl _), Ls_set_same hi, hu]
        simp
      · rw [Ls_set_ne e]
        have := h1 (by omega)
        omega
    · intro h
      rw [Ls_set_ne (by omega), h2 (by omega)]
theorem cntL_zero {n : Nat} {listed : Array Bool} (h : cntL n listed = 0) : ∀ k, k < n → Ls listed k = true := by
  intro k hk
  unfold cntL at h
  have := List.countP_eq_zero.1 h k (List.mem_range.2 hk)
  simpa using this

section
variable {P : Program} {E : Env P} {ops : Array Oper} {s0 : List Value} {B0 : Nat} {H0 : AH} {A : Nat → Prop} {ι0 : Ren} {w0 : World} {Q : List Value → AH → Nat → Prop}
  {listed : Array Bool} {a : Act} {w : World} {tr : List Ent} {rest : List Stp} {H : AH} {Bd : Nat} {pend : List (Nat × List Value)} {wt : List (Nat × Op × List Value × Value)} {ι : Ren}

/-- A point at which every quiet operation has been worked out that can be. -/
def Sim' {P : Program} (E : Env P) (ops : Array Oper) (s0 : List Value) (B0 : Nat) (H0 : AH) (A : Nat → Prop) (ι0 : Ren) (w0 : World) (Q : List Value → AH → Nat → Prop) (listed : Array Bool) (a : Act) (w : World) : Prop :=
  ∃ tr rest H Bd pend wt ι, Sim E ops s0 B0 H0 A ι0 w0 Q listed a w tr rest H Bd pend wt ι ∧ ∀ st r, rest = st :: r → ∃ o, ops[st.i]? = some o ∧ isEff o.op = true

theorem Sim.eager : ∀ (rest : List Stp) (tr : List Ent) (pend : List (Nat × List Value)) (wt : List (Nat × Op × List Value × Value)), Sim E ops s0 B0 H0 A ι0 w0 Q listed a w tr rest H Bd pend wt ι → Sim' E ops s0 B0 H0 A ι0 w0 Q listed a w
  | [], tr, pend, wt, h => ⟨tr, [], H, Bd, pend, wt, ι, h, fun _ _ e => by cases e⟩
  | st :: rest, tr, pend, wt, h => by
    obtain ⟨seg, hplan⟩ := h.plan
    have : ∃ o, ops[st.i]? = some o := by cases hplan with | step ho => exact ⟨_, ho⟩
    obtain ⟨o, ho⟩ := this
    cases hq : isEff o.op with
    | true => exact ⟨tr, st :: rest, H, Bd, pend, wt, ι, h, fun st' r e => by cases e; exact ⟨o, ho, hq⟩⟩
    | false =>
      obtain ⟨e, pend', wt', h'⟩ := h.advance ho hq
      exact Sim.eager rest (e :: tr) pend' wt' h'

theorem Sim.pick (hP : POk P) {Q' : Exit → Act → World → Prop} (h : Sim' E ops s0 B0 H0 A ι0 w0 Q listed a w) {i : Nat} (hr : i ∈ Region.ready .any ops listed) :
    wpOp P ops Q' i (fun a' w' => Sim' E ops s0 B0 H0 A ι0 w0 Q (listed.setIfInBounds i true) a' w') a w := by
  obtain ⟨tr, rest, H, Bd, pend, wt, ι, h, hE⟩ := h
  obtain ⟨hun, hi, ⟨o, ho⟩, hed⟩ := edges_of_ready hr
  by_cases hm : i ∈ tr.map (·.i)
  · obtain ⟨e, he, rfl⟩ := List.mem_map.1 hm
    exact wpOp_mono (fun a' w' ⟨ι', h'⟩ => ⟨tr, rest, H, Bd, pend, wt, ι', h', hE⟩) (h.pickQuiet hP he hr)
  · obtain ⟨seg, hplan⟩ := h.plan
    rcases hplan.all i hi with h1 | ⟨st, hst, hsi⟩
    · exact absurd h1 hm
    · cases rest with
      | nil => cases hst
      | cons st0 rest =>
        obtain ⟨o0, ho0, hq0⟩ := hE st0 rest rfl
        have hst0 : st = st0 ∨ st ∈ rest := by simpa using hst
        have hi0 : st0.i = i := by
          rcases hst0 with rfl | hst'
          · exact hsi
          · exfalso
            have hunl : ∀ s ∈ st0 :: rest, Ls listed s.i = false := by
              have key : ∀ {pre : List Nat} {seg : Option (List Nat)} {l : List Stp}, PlanOK ops pre seg l → ∀ s ∈ l, s.i ∉ pre := by
                intro pre seg l hl
                induction hl with
                | done _ => intro s hs; cases hs
                | @step pre seg i act wat rest o ho hn he hp hs ha hr ih =>
                  intro s hs'
                  rcases List.mem_cons.1 hs' with rfl | hs'
                  · exact hn
                  · exact fun hm => ih s hs' (List.mem_cons_of_mem _ hm)
              intro s hs
              cases hl : Ls listed s.i with
              | false => rfl
              | true => exact absurd (h.sub _ hl) (key hplan s hs)
            cases hplan with
            | @step _ _ i1 act1 wat1 _ o1 ho' hn he hp hs ha hrest =>
              have : isEff o1.op = true := by
                have e := ho'.symm.trans ho0
                injection e with e
                rw [e]; exact hq0
              rw [if_pos this] at hrest
              obtain ⟨k, hk, hku⟩ := hrest.waits _ rfl (by simp) (fun k hk => by simp at hk; rw [hk]; exact hunl _ List.mem_cons_self) (fun s hs => hunl s (List.mem_cons_of_mem _ hs)) st hst'
              rw [hsi] at hk
              rw [hed k hk] at hku
              cases hku
        subst hi0
        exact wpOp_mono (fun a' w' ⟨tr', H', Bd', pend', ι', h'⟩ => Sim.eager rest tr' pend' wt h') (h.pickEff hP ho0 hq0 hr)

theorem Sim.done (h : Sim' E ops s0 B0 H0 A ι0 w0 Q listed a w) (hr : Region.ready .any ops listed = []) :
    ∃ ι' s' H' Bd', Q s' H' Bd' ∧ B0 ≤ Bd' ∧ St A ι' s' H' Bd' a w ∧ Keep A ι0 w0 ι' w ∧ Agr B0 ι0 ι' ∧ NI H0 H' := by
  obtain ⟨tr, rest, H, Bd, pend, wt, ι, h, hE⟩ := h
  have hall : ∀ l : List Ent, TrEd ops l → (∀ e ∈ l, e.i < ops.size) → ∀ e ∈ l, Ls listed e.i = true := by
    intro l
    induction l with
    | nil => intro _ _ e he; cases he
    | cons x l ih =>
      intro hed hex e he
      have ihl := ih hed.2 fun e he => hex e (List.mem_cons_of_mem _ he)
      rcases List.mem_cons.1 he with rfl | he
      · cases hl : Ls listed e.i with
        | true => rfl
        | false =>
          have := ready_of_edges h.size (hex e List.mem_cons_self) hl fun k hk => by
            obtain ⟨y, hy, rfl⟩ := List.mem_map.1 (hed.1 k hk)
            exact ihl y hy
          rw [hr] at this
          cases this
      · exact ihl e he
  have hlist := hall tr h.edges h.ex
  have hrest : rest = [] := by
    cases rest with
    | nil => rfl
    | cons st rest =>
      obtain ⟨seg, hplan⟩ := h.plan
      cases hplan with
      | step ho hn he hp hs ha hrest =>
        have hi := (Array.getElem?_eq_some_iff.1 ho).1
        have := ready_of_edges h.size hi (by
          cases hl : Ls listed _ with
          | false => rfl
          | true => exact absurd (h.sub _ hl) hn) fun k hk => by
            obtain ⟨y, hy, rfl⟩ := List.mem_map.1 (he k hk)
            exact hlist y hy
        rw [hr] at this
        cases this
  subst hrest
  have h1 : (tr.filter fun e => Ls listed e.i) = tr := List.filter_eq_self.2 fun e he => hlist e he
  have h2 : (pend.filter fun p => Ls listed p.1) = pend := List.filter_eq_self.2 fun p hp => by
    obtain ⟨⟨x, hx, g, _⟩, _⟩ := h.pin p hp
    rw [← g]; exact hlist x hx
  have hc := h.cond
  unfold vd at hc
  have hs := h.slots
  have hrel := h.rel
  rw [h1] at hs
  rw [h2] at hrel
  exact ⟨ι, _, _, Bd, hc, Nat.le_trans (Nat.le_add_right _ _) h.bd, ⟨hrel, hs, h.defers⟩, h.keep, h.agr, h.ni.full _ _⟩

theorem Sim.any (hP : POk P) {Q' : Exit → Act → World → Prop} (hQ : ∀ a w ι' s' H' Bd', Q s' H' Bd' → B0 ≤ Bd' → St A ι' s' H' Bd' a w → Keep A ι0 w0 ι' w → Agr B0 ι0 ι' → NI H0 H' → Q' .normal a w) :
    ∀ (fuel : Nat) (listed : Array Bool) (a : Act) (w : World), listed.size = ops.size → cntL ops.size listed = fuel → Sim' E ops s0 B0 H0 A ι0 w0 Q listed a w → wpAny P .any ops Q' fuel listed a w
  | 0, listed, a, w, hs, hc, h => by
    have hr : Region.ready .any ops listed = [] := by
      cases hx : Region.ready .any ops listed with
      | nil => rfl
      | cons i l =>
        obtain ⟨hun, hi, _⟩ := edges_of_ready (i := i) (by rw [hx]; exact List.mem_cons_self)
        rw [cntL_zero hc i hi] at hun
        cases hun
    obtain ⟨ι', s', H', Bd', g1, g2, g3, g4, g5, g6⟩ := Sim.done h hr
    exact ⟨hr, hQ a w ι' s' H' Bd' g1 g2 g3 g4 g5 g6⟩
  | fuel + 1, listed, a, w, hs, hc, h => by
    refine ⟨fun hr => ?_, fun i hi => ?_⟩
    · obtain ⟨ι', s', H', Bd', g1, g2, g3, g4, g5, g6⟩ := Sim.done h hr
      exact hQ a w ι' s' H' Bd' g1 g2 g3 g4 g5 g6
    · obtain ⟨hun, hlt, _⟩ := edges_of_ready hi
      refine wpOp_mono (fun a' w' h' => ?_) (Sim.pick hP h hi)
      refine Sim.any hP hQ fuel _ a' w' (by rw [Array.size_setIfInBounds]; exact hs) ?_ h'
      have := (cntL_set (by rw [hs]; exact hlt) hun ops.size).1 hlt
      omega
end

/-- A drawn region. -/
theorem tr_draw {P : Program} (hP : POk P) (E : Env P) {N0 id : Nat} {ops : Array Oper} (order : List Nat) (plan : List Stp) (hm : mk ops order [] [] none = some plan) {Q : APost} {s : List Value} {H : AH} {Bd : Nat}
    (h : vd E ops.toList Bd plan s H (Bd + ops.size) [] [] (Q .normal)) : Tr P N0 (.region id ops true) Q s H Bd := by
  intro hN A ι a w hst
  refine wp_region_any hP.mixed ?_
  have hrel : Rel A ι H (Bd + ops.size) w.drew := (hst.rel.drew).raise (Nat.le_add_right _ _)
  have hsim : Sim E ops s Bd H A ι w (Q .normal) (Array.replicate ops.size false) a w.drew [] plan H (Bd + ops.size) [] [] ι :=
    { plan := ⟨none, mk_sound _ _ _ _ _ (fun p hp => (by cases hp)) hm⟩, trok := trivial, nodup := List.nodup_nil, pair := List.Pairwise.nil, size := (by simp),
      sub := fun k hk => (by rw [Ls, getD_replicate_false] at hk; cases hk), eff := fun e he => (by cases he), ex := fun e he => (by cases he), edges := trivial,
      closed := fun j hj => (by rw [Ls, getD_replicate_false] at hj; cases hj), slots := hst.slots.mono (Ext.refl ι) (Keep.drew A w).rows, rel := hrel, bd := Nat.le_refl _,
      free := fun i hi _ => hst.rel.bound _ (Nat.le_add_right _ _), ent := fun e he => (by cases he), pnodup := List.nodup_nil, pin := fun p hp => (by cases hp), wat := fun e he => (by cases he),
      cond := h, defers := hst.defers, keep := Keep.drew A w, agr := Agr.refl _ _, ni := NI.refl _ }
  refine Sim.any hP (fun a' w' ι' s' H' Bd' g1 g2 g3 g4 g5 g6 => ?_) ops.size _ a w.drew (by simp) ?_ (Sim.eager plan [] [] [] hsim)
  · exact ⟨ι', s', H', Bd', g1, Nat.le_trans hN g2, g3, g4, fun n hn => g5 n (Nat.lt_of_lt_of_le hn hN), g6⟩
  · unfold cntL
    rw [List.countP_eq_length.2 fun k _ => (by rw [Ls, getD_replicate_false]; rfl), List.length_range]
end Go.SC
