/- Drawn regions: an eager order, and what it says of every order. -/
import Derived.Test.YthhcemhignihlaaDoorScM2
import Derived.StillTail
set_option linter.unusedSimpArgs false
set_option linter.unusedVariables false
namespace Go.SC
open Go

/-! ### the plan -/
def edgesOf (ops : Array Oper) (j : Nat) : List Nat :=
  match ops[j]? with
  | some o => (o.after.toList.filter fun e => Region.binds .any e).map (·.on)
  | none => []

/-- One waits for the other. -/
inductive Rch (ops : Array Oper) : Nat → Nat → Prop
  | direct {j k : Nat} (h : k ∈ edgesOf ops j) : Rch ops j k
  | step {j m k : Nat} (h : m ∈ edgesOf ops j) (h' : Rch ops m k) : Rch ops j k

structure Stp where
  i : Nat
  act : List Nat
  wat : List Nat

inductive PlanOK (ops : Array Oper) : List Nat → Option (List Nat) → List Stp → Prop
  | done {pre : List Nat} {seg : Option (List Nat)} (h : ∀ i, i < ops.size → i ∈ pre) : PlanOK ops pre seg []
  | step {pre : List Nat} {seg : Option (List Nat)} {i : Nat} {act wat : List Nat} {rest : List Stp} {o : Oper} (ho : ops[i]? = some o) (hn : i ∉ pre) (he : ∀ k ∈ edgesOf ops i, k ∈ pre)
      (hp : ∀ j ∈ pre, ∀ p, ops[j]? = some p → o.apart ops p = true ∨ Rch ops i j) (hs : ∀ l, seg = some l → ∃ k ∈ edgesOf ops i, k ∈ l)
      (ha : isEff o.op = true → (∀ j ∈ act, Rch ops i j) ∧ ∀ j ∈ pre, ∀ p, ops[j]? = some p → readsHeap p.op = true → j ∈ wat ∨ Rch ops i j)
      (hr : PlanOK ops (i :: pre) (if isEff o.op = true then some [i] else seg.map (i :: ·)) rest) : PlanOK ops pre seg (⟨i, act, wat⟩ :: rest)

def lookA : List (Nat × List Nat) → Nat → List Nat
  | [], _ => []
  | (j, l) :: r, k => if j = k then l else lookA r k
def insNew (l : List Nat) (k : Nat) : List Nat := if l.contains k then l else k :: l
def ancOf (ops : Array Oper) (acc : List (Nat × List Nat)) (i : Nat) : List Nat :=
  (edgesOf ops i).foldl (fun l k => (lookA acc k).foldl insNew (insNew l k)) []
def heapAt (ops : Array Oper) (j : Nat) : Bool := match ops[j]? with | some p => readsHeap p.op | none => false
def isFresh : Op → Bool
  | .alloc _ | .box .. | .buildSlice .. | .makeSlice .. => true
  | _ => false
def freshAt (ops : Array Oper) (j : Nat) : Bool := match ops[j]? with | some p => isFresh p.op | none => false
def apartAt (ops : Array Oper) (o : Oper) (j : Nat) : Bool := match ops[j]? with | some p => o.apart ops p | none => false

def segOK (ops : Array Oper) (i : Nat) (seg : Option (List Nat)) : Bool := match seg with | none => true | some l => (edgesOf ops i).any l.contains

def mk (ops : Array Oper) : List Nat → List Nat → List (Nat × List Nat) → Option (List Nat) → Option (List Stp)
  | [], pre, _, _ => if (List.range ops.size).all pre.contains then some [] else none
  | i :: rest, pre, acc, seg =>
    match ops[i]? with
    | none => none
    | some o =>
      if !pre.contains i && (edgesOf ops i).all pre.contains && pre.all (fun j => apartAt ops o j || (ancOf ops acc i).contains j) && segOK ops i seg then
        (mk ops rest (i :: pre) ((i, ancOf ops acc i) :: acc) (if isEff o.op = true then some [i] else seg.map (i :: ·))).map fun r =>
          (⟨i, if isEff o.op = true then pre.filter (fun j => freshAt ops j && (ancOf ops acc i).contains j) else [], if isEff o.op = true then pre.filter (fun j => heapAt ops j && !(ancOf ops acc i).contains j) else []⟩ : Stp) :: r
      else none

theorem mem_insNew {l : List Nat} {k x : Nat} (h : x ∈ insNew l k) : x ∈ l ∨ x = k := by
  unfold insNew at h
  split at h
  · exact .inl h
  · rcases List.mem_cons.1 h with h | h
    · exact .inr h
    · exact .inl h
theorem mem_foldNew {x : Nat} : ∀ (m l : List Nat), x ∈ m.foldl insNew l → x ∈ l ∨ x ∈ m
  | [], l, h => .inl h
  | k :: m, l, h => by
    rcases mem_foldNew m _ h with h | h
    · rcases mem_insNew h with h | h
      · exact .inl h
      · exact .inr (by simp [h])
    · exact .inr (by simp [h])
theorem lookA_sound {ops : Array Oper} : ∀ (acc : List (Nat × List Nat)) (k x : Nat), (∀ p ∈ acc, ∀ x ∈ p.2, Rch ops p.1 x) → x ∈ lookA acc k → Rch ops k x
  | [], k, x, _, h => by cases h
  | (j, l) :: r, k, x, hacc, h => by
    unfold lookA at h
    split at h
    · rename_i e; subst e; exact hacc (j, l) (by simp) x h
    · exact lookA_sound r k x (fun p hp => hacc p (by simp [hp])) h
theorem ancOf_sound {ops : Array Oper} {acc : List (Nat × List Nat)} (hacc : ∀ p ∈ acc, ∀ x ∈ p.2, Rch ops p.1 x) {i x : Nat} (h : x ∈ ancOf ops acc i) : Rch ops i x := by
  have key : ∀ (m l : List Nat), (∀ k ∈ m, k ∈ edgesOf ops i) → (∀ x ∈ l, Rch ops i x) → ∀ x ∈ m.foldl (fun l k => (lookA acc k).foldl insNew (insNew l k)) l, Rch ops i x := by
    intro m
    induction m with
    | nil => intro l _ hl x hx; exact hl x hx
    | cons k m ih =>
      intro l hm hl x hx
      refine ih _ (fun k' hk' => hm k' (by simp [hk'])) (fun y hy => ?_) x hx
      have hk := hm k (by simp)
      rcases mem_foldNew _ _ hy with hy | hy
      · rcases mem_insNew hy with hy | rfl
        · exact hl y hy
        · exact .direct hk
      · exact .step hk (lookA_sound acc k y hacc hy)
  exact key _ [] (fun _ h => h) (fun _ h => by cases h) x h

theorem mk_sound {ops : Array Oper} : ∀ (order pre : List Nat) (acc : List (Nat × List Nat)) (seg : Option (List Nat)) (plan : List Stp), (∀ p ∈ acc, ∀ x ∈ p.2, Rch ops p.1 x) → mk ops order pre acc seg = some plan → PlanOK ops pre seg plan
  | [], pre, acc, seg, plan, hacc, h => by
    unfold mk at h
    split at h
    · rename_i hc
      cases h
      refine .done fun i hi => ?_
      have := List.all_eq_true.1 hc i (List.mem_range.2 hi)
      simpa using this
    · cases h
  | i :: rest, pre, acc, seg, plan, hacc, h => by
    unfold mk at h
    split at h
    · cases h
    · rename_i o ho
      split at h
      · rename_i hc
        obtain ⟨r, hr, rfl⟩ := Option.map_eq_some_iff.1 h
        simp only [Bool.and_eq_true, Bool.not_eq_true'] at hc
        obtain ⟨⟨⟨h1, h2⟩, h3⟩, h4⟩ := hc
        refine .step ho (by simpa using h1) (fun k hk => by simpa using List.all_eq_true.1 h2 k hk) (fun j hj p hp => ?_) (fun l hl => ?_) (fun he => ⟨fun j hj => ?_, fun j hj p hp hh => ?_⟩)
          (mk_sound rest (i :: pre) _ _ r (fun p hp x hx => ?_) hr)
        · have := List.all_eq_true.1 h3 j hj
          simp only [Bool.or_eq_true, apartAt, hp] at this
          rcases this with h | h
          · exact .inl h
          · exact .inr (ancOf_sound hacc (by simpa using h))
        · subst hl
          obtain ⟨k, hk, hk2⟩ := List.any_eq_true.1 (show (edgesOf ops i).any l.contains = true from h4)
          exact ⟨k, hk, by simpa using hk2⟩
        · rw [if_pos he] at hj
          have := (List.mem_filter.1 hj).2
          simp only [Bool.and_eq_true] at this
          exact ancOf_sound hacc (by simpa using this.2)
        · rw [if_pos he]
          cases hc : (ancOf ops acc i).contains j with
          | true => exact .inr (ancOf_sound hacc (by simpa using hc))
          | false => exact .inl (List.mem_filter.2 ⟨hj, by rw [hc]; simp [heapAt, hp, hh]⟩)
        · rcases List.mem_cons.1 hp with rfl | hp
          · exact ancOf_sound hacc hx
          · exact hacc p hp x hx
      · cases h

/-! ### the condition -/
/-- Memory with the blocks that have been made and set aside. -/
def full (B0 : Nat) (H : AH) (L : List (Nat × List Value)) : AH := fun n =>
  match L.find? (fun p => B0 + p.1 == n) with
  | some p => some ⟨p.2, true⟩
  | none => H n
theorem full_nil (B0 : Nat) (H : AH) : full B0 H [] = H := rfl
theorem full_cons (B0 : Nat) (H : AH) (i : Nat) (c : List Value) (r : List (Nat × List Value)) : full B0 H ((i, c) :: r) = upd (full B0 H r) (B0 + i) (some ⟨c, true⟩) := by
  funext n
  simp only [full, List.find?_cons, upd]
  by_cases h : B0 + i = n
  · simp [h]
  · have : (B0 + i == n) = false := by simp [h]
    rw [this]
    simp [Ne.symm h]

def watched (P : Program) : List (Nat × Op × List Value × Value) → List Nat → AH → Prop
  | [], _, _ => True
  | (i, op, s, v) :: r, wat, H => (if wat.contains i = true then aq P s H 0 op = some (v, none) else True) ∧ watched P r wat H
def clearOf (B0 : Nat) : List (Nat × List Value) → AH → Prop
  | [], _ => True
  | (i, _) :: r, H => H (B0 + i) = none ∧ clearOf B0 r H
def addP (i : Nat) (b : Option (List Value)) (pend : List (Nat × List Value)) : List (Nat × List Value) :=
  match b with
  | none => pend
  | some c => (i, c) :: pend
def gd (ops : List Oper) (s : List Value) (g : Option (Nat × Bool)) (A B : Prop) : Prop :=
  match g with
  | none => A
  | some (j, want) => guardK (agard ops s j) want A B
def opAt : List Oper → Nat → (Oper → Prop) → Prop
  | [], _, _ => False
  | o :: _, 0, K => K o
  | _ :: l, n + 1, K => opAt l n K

def vd {P : Program} (E : Env P) (ops : List Oper) (B0 : Nat) : List Stp → List Value → AH → Nat → List (Nat × List Value) → List (Nat × Op × List Value × Value) → (List Value → AH → Nat → Prop) → Prop
  | [], s, H, Bd, pend, wt, Q => Q s (full B0 H pend) Bd
  | ⟨i, act, wat⟩ :: rest, s, H, Bd, pend, wt, Q =>
    opAt ops i fun o => gd ops s o.guard
      (if isEff o.op = true then
        astep E o s (full B0 H (pend.filter fun p => act.contains p.1)) Bd fun v H' Bd' =>
          clearOf B0 (pend.filter fun p => !act.contains p.1) H' ∧ watched P wt wat (full B0 H' (pend.filter fun p => !act.contains p.1)) ∧
            vd E ops B0 rest (sput s o.dst v) H' Bd' (pend.filter fun p => !act.contains p.1) wt Q
      else
        Yld (aq P s (full B0 H pend) (B0 + i) o.op) fun r =>
          vd E ops B0 rest (sput s o.dst r.1) H Bd (addP i r.2 pend) (if readsHeap o.op = true then (i, o.op, s, r.1) :: wt else wt) Q)
      (vd E ops B0 rest (sput s o.dst undef) H Bd pend wt Q)
end Go.SC
