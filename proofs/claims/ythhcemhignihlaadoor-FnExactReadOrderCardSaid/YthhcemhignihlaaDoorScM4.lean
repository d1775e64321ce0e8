/- Drawn regions: what is true at every point of every order. -/
import Derived.Test.YthhcemhignihlaaDoorScM3
set_option linter.unusedSimpArgs false
set_option linter.unusedVariables false
namespace Go.SC
open Go

def dstOf (ops : Array Oper) (i : Nat) : Option Nat := (ops[i]?).bind (·.dst)

/-- An operation that has been worked out: the slots ahead of it, its value, its block, and whether it ran. -/
structure Ent where
  i : Nat
  s : List Value
  v : Value
  blk : Option (List Value)
  run : Bool

def slotsR (ops : Array Oper) (s0 : List Value) : List Ent → List Value
  | [] => s0
  | e :: r => sput (slotsR ops s0 r) (dstOf ops e.i) e.v
def TrOK (ops : Array Oper) (s0 : List Value) : List Ent → Prop
  | [] => True
  | e :: r => e.s = slotsR ops s0 r ∧ TrOK ops s0 r

theorem sput_length (s : List Value) (d : Option Nat) (v : Value) : (sput s d v).length = s.length := by
  cases d with
  | none => rfl
  | some d => simp only [sput, sset_eq]; simp
theorem sput_get (s : List Value) (d : Option Nat) (v : Value) (t : Nat) : sget (sput s d v) t = if d = some t then (if t < s.length then v else undef) else sget s t := by
  cases d with
  | none => simp [sput]
  | some d =>
    simp only [sput, sset_eq, sget_eq, List.getD_eq_getElem?_getD, Option.some.injEq]
    by_cases h : d = t
    · subst h
      by_cases hl : d < s.length
      · simp [hl]
      · simp [hl]
    · simp [h, List.getElem?_set_ne h]
theorem sget_ext {s s' : List Value} (hl : s.length = s'.length) (h : ∀ t, sget s t = sget s' t) : s = s' := by
  refine List.ext_getElem hl fun i h1 h2 => ?_
  have := h i
  simpa [sget_eq, List.getD_eq_getElem?_getD, h1, h2] using this
theorem slotsR_length (ops : Array Oper) (s0 : List Value) : ∀ L, (slotsR ops s0 L).length = s0.length
  | [] => rfl
  | e :: r => by rw [slotsR, sput_length, slotsR_length ops s0 r]
theorem slotsR_get (ops : Array Oper) (s0 : List Value) (t : Nat) : ∀ L : List Ent, sget (slotsR ops s0 L) t = match L.find? (fun e => dstOf ops e.i == some t) with
    | some e => if t < s0.length then e.v else undef
    | none => sget s0 t
  | [] => rfl
  | e :: r => by
    rw [slotsR, sput_get, slotsR_length, List.find?_cons]
    by_cases h : dstOf ops e.i = some t
    · simp [h]
    · have h' : (dstOf ops e.i == some t) = false := by simpa using h
      rw [if_neg h, h', slotsR_get ops s0 t r]

theorem find?_filter {α : Type} (p q : α → Bool) : ∀ L : List α, (∀ x ∈ L, p x = true → q x = true) → (L.filter q).find? p = L.find? p
  | [], _ => rfl
  | x :: L, h => by
    have ih := find?_filter p q L fun y hy => h y (by simp [hy])
    by_cases hq : q x = true
    · rw [List.filter_cons_of_pos hq, List.find?_cons, List.find?_cons, ih]
    · rw [List.filter_cons_of_neg hq, List.find?_cons, ih]
      have : p x = false := by
        cases hp : p x with
        | false => rfl
        | true => exact absurd (h x (by simp) hp) hq
      rw [this]
theorem find?_filter_none {α : Type} (p q : α → Bool) : ∀ L : List α, (∀ x ∈ L, p x = true → q x = false) → (L.filter q).find? p = none
  | L, h => by
    rw [List.find?_eq_none]
    intro x hx hp
    have h1 := List.mem_filter.1 hx
    have := h x h1.1 (by simpa using hp)
    rw [this] at h1
    simp at h1

theorem ev_agree {s s' : List Value} {x : Operand} (h : ∀ t, x = .tmp t → sget s t = sget s' t) : ev s x = ev s' x := by
  cases x with
  | tmp t => exact h t rfl
  | _ => rfl
theorem looks_op {ops : Array Oper} {o : Oper} {x : Operand} {t : Nat} (hx : x ∈ o.op.operands.toList) (e : x = .tmp t) : t ∈ o.looksAt ops := by
  subst e
  unfold Oper.looksAt
  refine List.mem_append.2 (.inl (List.mem_filterMap.2 ⟨_, hx, rfl⟩))
theorem looks_guard {ops : Array Oper} {o : Oper} {j t : Nat} {want : Bool} (hg : o.guard = some (j, want)) (hd : dstOf ops j = some t) : t ∈ o.looksAt ops := by
  unfold Oper.looksAt
  unfold dstOf at hd
  refine List.mem_append.2 (.inr ?_)
  rw [hg]
  simp only [hd]
  simp

def gdRun (ops : List Oper) (s : List Value) (g : Option (Nat × Bool)) : Prop :=
  match g with
  | none => True
  | some (j, want) => ∃ b, agard ops s j = some (.bool b) ∧ b = want
def gdSkip (ops : List Oper) (s : List Value) (g : Option (Nat × Bool)) : Prop :=
  match g with
  | none => False
  | some (j, want) => (∃ b, agard ops s j = some (.bool b) ∧ b ≠ want) ∨ ∃ vs, agard ops s j = some (.tuple vs)
theorem gd_cases {ops : List Oper} {s : List Value} {g : Option (Nat × Bool)} {A B : Prop} (h : gd ops s g A B) : (gdRun ops s g ∧ A) ∨ (gdSkip ops s g ∧ B) := by
  unfold gd at h
  unfold gdRun gdSkip
  split at h
  · exact .inl ⟨trivial, h⟩
  · rename_i j want
    unfold guardK at h
    split at h
    · rename_i b hb
      by_cases hbw : b = want
      · exact .inl ⟨⟨b, hb, hbw⟩, h.1 (by simp [hbw])⟩
      · exact .inr ⟨.inl ⟨b, hb, hbw⟩, h.2 (by simp [hbw])⟩
    · rename_i vs hb
      exact .inr ⟨.inr ⟨vs, hb⟩, h⟩
    · cases h
theorem agard_agree {ops : Array Oper} {o : Oper} {j : Nat} {want : Bool} {s s' : List Value} (hg : o.guard = some (j, want)) (h : ∀ t, t ∈ o.looksAt ops → sget s t = sget s' t) : agard ops.toList s j = agard ops.toList s' j := by
  unfold agard
  rw [odst_eq, Array.getElem?_toList]
  cases hd : (ops[j]?).bind (·.dst) with
  | none => rfl
  | some t => simp only [h t (looks_guard hg hd)]
theorem gdRun_agree {ops : Array Oper} {o : Oper} {s s' : List Value} (h : ∀ t, t ∈ o.looksAt ops → sget s t = sget s' t) (hr : gdRun ops.toList s o.guard) : gdRun ops.toList s' o.guard := by
  cases hg : o.guard with
  | none => trivial
  | some p => obtain ⟨j, want⟩ := p; rw [hg] at hr; simp only [gdRun] at hr ⊢; rw [← agard_agree hg h]; exact hr
theorem gdSkip_agree {ops : Array Oper} {o : Oper} {s s' : List Value} (h : ∀ t, t ∈ o.looksAt ops → sget s t = sget s' t) (hr : gdSkip ops.toList s o.guard) : gdSkip ops.toList s' o.guard := by
  cases hg : o.guard with
  | none => rw [hg] at hr; exact hr
  | some p => obtain ⟨j, want⟩ := p; rw [hg] at hr; simp only [gdSkip] at hr ⊢; rw [← agard_agree hg h]; exact hr
theorem gdRun_wanted {ι : Ren} {w : World} {s : List Value} {ops : Array Oper} {a : Act} {o : Oper} (hs : SR ι w s a.tmps) (h : gdRun ops.toList s o.guard) : Region.wanted o (yielded ops a.tmps) = true := by
  cases hg : o.guard with
  | none => simp [Region.wanted, hg]
  | some p =>
    obtain ⟨j, want⟩ := p
    rw [hg] at h
    obtain ⟨b, hb, rfl⟩ := h
    have hy : yielded ops a.tmps j = some b := by
      rcases agard_sound hs hb with ⟨v', h1, h2⟩ | ⟨h1, _⟩
      · cases h2; simp only [yielded, h1]
      · cases h1
    simp [Region.wanted, hg, hy]
theorem gdSkip_wanted {ι : Ren} {w : World} {s : List Value} {ops : Array Oper} {a : Act} {o : Oper} (hs : SR ι w s a.tmps) (h : gdSkip ops.toList s o.guard) : Region.wanted o (yielded ops a.tmps) = false := by
  cases hg : o.guard with
  | none => rw [hg] at h; exact h.elim
  | some p =>
    obtain ⟨j, want⟩ := p
    rw [hg] at h
    rcases h with ⟨b, hb, hne⟩ | ⟨vs, hb⟩
    · have hy : yielded ops a.tmps j = some b := by
        rcases agard_sound hs hb with ⟨v', h1, h2⟩ | ⟨h1, _⟩
        · cases h2; simp only [yielded, h1]
        · cases h1
      simp [Region.wanted, hg, hy, hne]
    · have hy : yielded ops a.tmps j = none := by
        rcases agard_sound hs hb with ⟨v', h1, h2⟩ | ⟨_, h1⟩
        · cases h2; simp only [yielded, h1]
        · simp only [yielded, h1]
      simp [Region.wanted, hg, hy]

theorem opAt_out : ∀ {l : List Oper} {i : Nat} {K : Oper → Prop}, opAt l i K → ∃ o, l[i]? = some o ∧ K o
  | [], _, _, h => h.elim
  | o :: _, 0, K, h => ⟨o, rfl, h⟩
  | _ :: l, n + 1, K, h => by
    obtain ⟨o, h1, h2⟩ := opAt_out (l := l) h
    exact ⟨o, by simpa using h1, h2⟩

/-! ### blocks by name -/
theorem full_mem {B0 : Nat} {H : AH} : ∀ {L : List (Nat × List Value)}, (L.map (·.1)).Nodup → ∀ {p : Nat × List Value}, p ∈ L → full B0 H L (B0 + p.1) = some ⟨p.2, true⟩
  | [], _, p, h => by cases h
  | q :: L, hn, p, h => by
    obtain ⟨i, c⟩ := q
    rw [full_cons]
    simp only [List.map_cons, List.nodup_cons] at hn
    rcases List.mem_cons.1 h with rfl | h
    · exact upd_same _ _ _
    · have : i ≠ p.1 := fun e => hn.1 (by rw [e]; exact List.mem_map_of_mem h)
      rw [upd_other _ _ (by omega)]
      exact full_mem hn.2 h
theorem full_not {B0 : Nat} {H : AH} {n : Nat} : ∀ {L : List (Nat × List Value)}, (∀ p ∈ L, B0 + p.1 ≠ n) → full B0 H L n = H n
  | [], _ => rfl
  | q :: L, h => by
    obtain ⟨i, c⟩ := q
    rw [full_cons, upd_other _ _ (fun e => h (i, c) (by simp) e.symm)]
    exact full_not fun p hp => h p (by simp [hp])
theorem nodup_filter {L : List (Nat × List Value)} (h : (L.map (·.1)).Nodup) (q : Nat × List Value → Bool) : ((L.filter q).map (·.1)).Nodup :=
  List.Nodup.sublist (List.Sublist.map _ List.filter_sublist) h
theorem key_unique : ∀ {L : List (Nat × List Value)}, (L.map (·.1)).Nodup → ∀ {p q}, p ∈ L → q ∈ L → p.1 = q.1 → p = q
  | [], _, p, q, h, _, _ => by cases h
  | r :: L, hn, p, q, hp, hq, e => by
    simp only [List.map_cons, List.nodup_cons] at hn
    rcases List.mem_cons.1 hp with rfl | hp' <;> rcases List.mem_cons.1 hq with rfl | hq'
    · rfl
    · exact absurd (by rw [e]; exact List.mem_map_of_mem hq') hn.1
    · exact absurd (by rw [← e]; exact List.mem_map_of_mem hp') hn.1
    · exact key_unique hn.2 hp' hq' e
theorem NI.full {H G : AH} (h : NI H G) (B0 : Nat) : ∀ L, NI H (SC.full B0 G L)
  | [] => h
  | (i, c) :: r => by rw [full_cons]; exact (NI.full h B0 r).upd _ _
theorem clearOf_out {B0 : Nat} : ∀ {L : List (Nat × List Value)} {H : AH}, clearOf B0 L H → ∀ p ∈ L, H (B0 + p.1) = none
  | [], _, _, p, h => by cases h
  | (i, c) :: r, H, hc, p, h => by
    rcases List.mem_cons.1 h with rfl | h
    · exact hc.1
    · exact clearOf_out hc.2 p h
theorem watched_out {P : Program} : ∀ {wt : List (Nat × Op × List Value × Value)} {wat : List Nat} {H : AH}, watched P wt wat H → ∀ {x : Nat × Op × List Value × Value}, x ∈ wt → x.1 ∈ wat → aq P x.2.2.1 H 0 x.2.1 = some (x.2.2.2, none)
  | [], _, _, _, x, h, _ => by cases h
  | (i, op, s, v) :: r, wat, H, hc, x, h, hx => by
    rcases List.mem_cons.1 h with rfl | h
    · have := hc.1
      rw [if_pos (by simpa using hx)] at this
      exact this
    · exact watched_out hc.2 h hx
theorem aq_heap_m {P : Program} {s : List Value} {H : AH} {m m' : Nat} {op : Op} (h : readsHeap op = true) : aq P s H m op = aq P s H m' op := by
  cases op <;> first | rfl | (simp [readsHeap] at h)
end Go.SC
