/- What an operation looks at. -/
import Derived.Test.YthhcemhignihlaaDoorScM
set_option linter.unusedSimpArgs false
set_option linter.unusedVariables false
namespace Go.SC
open Go

theorem parts_congr {s s' : List Value} (parts : Array (Nat × Operand)) (h : ∀ x ∈ (parts.toList.map (·.2)), ev s x = ev s' x) :
    (parts.toList.map fun x => (x.1, ev s x.2)) = parts.toList.map fun x => (x.1, ev s' x.2) :=
  List.map_congr_left fun x hx => by rw [h x.2 (List.mem_map_of_mem hx)]
theorem args_congr {s s' : List Value} (xs : Array Operand) (h : ∀ x ∈ xs.toList, ev s x = ev s' x) : xs.toList.map (ev s) = xs.toList.map (ev s') :=
  List.map_congr_left h
theorem abound_congr {s s' : List Value} (d : Int) (o : Option Operand) (h : ∀ x ∈ o.toArray.toList, ev s x = ev s' x) : abound s d o = abound s' d o := by
  cases o with
  | none => rfl
  | some x => simp only [abound, h x (by simp)]

theorem aval_congr {P : Program} {s s' : List Value} {op : Op} (h : ∀ x ∈ op.operands.toList, ev s x = ev s' x) : aval P s op = aval P s' op := by
  cases op with
  | slice t x lo hi mx =>
    have hx := h x (by simp [Op.operands])
    have hlo : ∀ d, abound s d lo = abound s' d lo := fun d => abound_congr d lo fun y hy => h y (by simp only [Op.operands, Array.toList_append, List.mem_append]; exact .inl (.inl (.inr hy)))
    have hhi : ∀ d, abound s d hi = abound s' d hi := fun d => abound_congr d hi fun y hy => h y (by simp only [Op.operands, Array.toList_append, List.mem_append]; exact .inl (.inr hy))
    have hmx : ∀ y, mx = some y → ev s y = ev s' y := fun y hy => h y (by subst hy; simp [Op.operands])
    simp only [aval, hx, aslice, hlo, hhi]
    have fin : ∀ y, mx = some y → aint? (ev s y) = aint? (ev s' y) := fun y hy => by rw [hmx y hy]
    cases ev s' x with
    | string b => cases abound s' 0 lo <;> cases abound s' b.size hi <;> cases mx <;> rfl
    | slice A len c =>
      cases A with
      | none =>
        cases len <;> cases c <;> first | rfl | (cases abound s' 0 lo <;> cases abound s' 0 hi <;> cases mx <;> first | rfl | simp only [fin _ rfl])
      | some a =>
        obtain ⟨n, off, sp⟩ := a
        cases sp with
        | none => rfl
        | some k =>
          dsimp only
          cases abound s' 0 lo <;> cases abound s' len hi <;> cases mx <;> first | rfl | simp only [fin _ rfl]
    | func f a b => cases f <;> first | rfl | (dsimp only; cases abound s' 0 lo <;> cases abound s' b.size hi <;> cases mx <;> rfl)
    | _ => rfl
  | build t parts => simp only [aval, parts_congr parts (fun x hx => h x (by simpa [Op.operands] using hx))]
  | makeFunc fn first caps => simp only [aval, args_congr caps (fun x hx => h x (by simp only [Op.operands, Array.toList_append, List.mem_append]; exact .inr hx))]
  | call c =>
    obtain ⟨callee, args, ts⟩ := c
    simp only [aval]
    cases hb : callee with
    | builtin b =>
      have ha : ∀ x ∈ args.toList, ev s x = ev s' x := fun x hx => h x (by simp only [Op.operands, Call.operands, hb]; first | exact hx | simpa using hx)
      split <;> first | rfl | (simp_all; done)
    | _ => simp
  | _ =>
    simp only [Op.operands, List.mem_cons, List.not_mem_nil, or_false, forall_eq_or_imp, forall_eq, List.mem_singleton] at h
    try simp only [aval, h]
theorem aq_congr {P : Program} {s s' : List Value} {H : AH} {m : Nat} {op : Op} (h : ∀ x ∈ op.operands.toList, ev s x = ev s' x) : aq P s H m op = aq P s' H m op := by
  have hv := aval_congr (P := P) h
  cases op with
  | buildSlice t len parts => simp only [aq, parts_congr parts (fun x hx => h x (by simpa [Op.operands] using hx))]
  | load t x => simp only [aq, h x (by simp [Op.operands])]
  | convert t u x => simp only [aq, h x (by simp [Op.operands])]
  | box t x => simp only [aq, h x (by simp [Op.operands])]
  | makeSlice t x y => simp only [aq, h x (by simp [Op.operands]), h y (by simp [Op.operands])]
  | alloc t => rfl
  | _ => simp only [aq, hv]

theorem astep_congr_eff {P : Program} {E : Env P} {o : Oper} {s s' : List Value} {H : AH} {Bd : Nat} {K : Value → AH → Nat → Prop} (he : isEff o.op = true) (h : ∀ x ∈ o.op.operands.toList, ev s x = ev s' x) :
    astep E o s H Bd K = astep E o s' H Bd K := by
  obtain ⟨dst, op, type, pos, after, guard⟩ := o
  simp only at h he
  cases op with
  | store t x y => simp only [astep, h x (by simp [Op.operands]), h y (by simp [Op.operands])]
  | call c =>
    obtain ⟨callee, args, ts⟩ := c
    cases hb : callee with
    | value f =>
      subst hb
      have ha : ∀ x ∈ args.toList, ev s x = ev s' x := fun x hx => h x (by simp only [Op.operands, Call.operands]; simp; simp at hx; first | exact .inl hx | exact .inr hx)
      have hf : ev s f = ev s' f := h f (by simp [Op.operands, Call.operands])
      simp only [astep, hf, args_congr args ha]
    | builtin b =>
      subst hb
      have ha : ∀ x ∈ args.toList, ev s x = ev s' x := fun x hx => h x (by simp only [Op.operands, Call.operands]; first | exact hx | simpa using hx)
      cases b <;> simp [isEff] at he
      simp only [astep]
      split <;> first | rfl | (simp_all; done)
    | _ => simp [astep]
  | _ => simp [isEff] at he
end Go.SC
