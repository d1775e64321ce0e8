/- What the program's functions come to, in plain words. -/
import Derived.Test.YthhcemhignihlaaDoorScT
set_option linter.unusedSimpArgs false
set_option linter.unusedVariables false
namespace Go.SC
open Go

/-- The fault of an operation. -/
def opFault (x : GOp) : Int :=
  if x.kind = 1 then (if x.n = 0 ∧ x.order.length = 0 ∧ x.equations.length = 0 then 0 else 1)
  else if x.kind = 2 then (if x.value = 0 ∧ x.n = 0 ∧ x.order.length = 0 ∧ x.equations.length = 0 then 0 else 1)
  else if x.kind = 3 then (if x.term.length = 0 ∧ x.value = 0 then 0 else 1)
  else if x.kind = 4 then (if x.term.length = 0 ∧ x.value = 0 ∧ x.order.length = 0 ∧ x.equations.length = 0 then 0 else 1)
  else if x.kind = 5 ∨ x.kind = 6 then (if x.term.length = 0 ∧ x.value = 0 ∧ x.n = 0 ∧ x.order.length = 0 ∧ x.equations.length = 0 then 0 else 1)
  else 1
theorem sm_take {α : Type} [Sz α] {xs : List α} (h : sm xs) (n : Nat) : sm (xs.take n) := ⟨by rw [List.length_take]; have := h.1; omega, fun x hx => h.2 x (List.mem_of_mem_take hx)⟩
theorem sm_drop {α : Type} [Sz α] {xs : List α} (h : sm xs) (n : Nat) : sm (xs.drop n) := ⟨by rw [List.length_drop]; have := h.1; omega, fun x hx => h.2 x (List.mem_of_mem_drop hx)⟩
/-! ### signatures -/
/-- The first element's index of which p is true; -1 if there is none. -/
def fidx {α : Type} (p : α → Bool) (xs : List α) : Int := match xs.findIdx? p with
  | some i => i
  | none => -1
theorem fidx_none {α : Type} {p : α → Bool} {xs : List α} (h : ∀ j, j < xs.length → ∀ x, xs[j]? = some x → p x = false) : fidx p xs = -1 := by
  have : xs.findIdx? p = none := by
    rw [List.findIdx?_eq_none_iff]
    intro x hx
    obtain ⟨j, hj, rfl⟩ := List.getElem_of_mem hx
    exact h j hj _ (List.getElem?_eq_getElem hj)
  rw [fidx, this]
theorem fidx_hit {α : Type} {p : α → Bool} {xs : List α} {i : Nat} (hi : i < xs.length) (h : ∀ j, j < i → ∀ x, xs[j]? = some x → p x = false) (hp : p xs[i] = true) : fidx p xs = i := by
  have : xs.findIdx? p = some i := by
    rw [List.findIdx?_eq_some_iff_getElem]
    refine ⟨hi, hp, fun j hj => ?_⟩
    have := h j hj _ (List.getElem?_eq_getElem (by omega))
    simp [this]
  rw [fidx, this]
theorem fidx_ge {α : Type} (p : α → Bool) (xs : List α) : decide (fidx p xs ≥ 0) = xs.any p := by
  cases h : xs.findIdx? p with
  | none =>
    rw [fidx, h]
    rw [List.findIdx?_eq_none_iff] at h
    have : xs.any p = false := by simpa using h
    rw [this]; rfl
  | some i =>
    rw [fidx, h]
    obtain ⟨hi, hp, _⟩ := List.findIdx?_eq_some_iff_getElem.1 h
    have : xs.any p = true := List.any_eq_true.2 ⟨_, List.getElem_mem hi, hp⟩
    rw [this]
    simp
theorem fidx_lt {α : Type} (p : α → Bool) (xs : List α) : -1 ≤ fidx p xs ∧ fidx p xs < xs.length := by
  cases h : xs.findIdx? p with
  | none => rw [fidx, h]; show (-1 : Int) ≤ -1 ∧ (-1 : Int) < xs.length; omega
  | some i =>
    rw [fidx, h]
    obtain ⟨hi, _, _⟩ := List.findIdx?_eq_some_iff_getElem.1 h
    show (-1 : Int) ≤ i ∧ (i : Int) < xs.length; omega

def isNm (s : ByteArray) : Bool := decide (1 ≤ s.size ∧ s.size ≤ 3 ∧ ∀ i, i < s.size → 97 ≤ byteAt s i ∧ byteAt s i ≤ 122)
def symL : List GSymbol → Int
  | [] => 0
  | x :: r => if isNm x.name = true then (if 0 ≤ x.arity ∧ x.arity ≤ 2 then symL r else 3) else 5
def sigG (s : GSignature) : Int :=
  if symL s.symbols ≠ 0 then symL s.symbols
  else if ¬ (s.symbols.map (·.name)).Nodup then 6
  else if s.symbols.any (fun x => decide (x.arity = 0)) = true then 0 else 4
def sigF (s : GSignature) : Int := if s.symbols.length < 1 ∨ s.symbols.length > 6 then 2 else sigG s
def isSym (s : GSignature) (n : Int) : Bool := decide (0 ≤ n ∧ n ≤ s.symbols.length - 1)
def symIdx (s : GSignature) (name : ByteArray) : Int := fidx (fun x => decide (x.name = name)) s.symbols
theorem nodup_of {α : Type} {xs : List α} (h : ∀ (i j : Nat) x y, j < i → xs[i]? = some x → xs[j]? = some y → x ≠ y) : xs.Nodup :=
  List.pairwise_iff_getElem.2 fun i j hi hj hij e => h j i _ _ hij (List.getElem?_eq_getElem hj) (List.getElem?_eq_getElem hi) e.symm
theorem nodup_not {α : Type} {xs : List α} {i j : Nat} (hij : j < i) (hi : i < xs.length) (h : xs[i] = xs[j]'(by omega)) : ¬ xs.Nodup :=
  fun k => List.pairwise_iff_getElem.1 k j i (by omega) hi hij h.symm
theorem nodup_ne {α : Type} {xs : List α} (h : xs.Nodup) {i j : Nat} (hij : j < i) (hi : i < xs.length) : xs[i] ≠ xs[j]'(by omega) := fun e => nodup_not hij hi e h
theorem nodup_map {α β : Type} {f : α → β} {xs : List α} (h : ∀ (i j : Nat) x y, j < i → i < xs.length → xs[i]? = some x → xs[j]? = some y → f x ≠ f y) : (xs.map f).Nodup := by
  refine nodup_of fun i j x y hij hx hy => ?_
  rw [List.getElem?_map] at hx hy
  cases hx' : xs[i]? with
  | none => rw [hx'] at hx; cases hx
  | some x' =>
    cases hy' : xs[j]? with
    | none => rw [hy'] at hy; cases hy
    | some y' =>
      rw [hx'] at hx; rw [hy'] at hy
      cases hx; cases hy
      exact h i j x' y' hij (List.getElem?_eq_some_iff.1 hx').1 hx' hy'
theorem nodup_map_not {α β : Type} {f : α → β} {xs : List α} {i j : Nat} (hij : j < i) (hi : i < xs.length) (h : f xs[i] = f (xs[j]'(by omega))) : ¬ (xs.map f).Nodup :=
  nodup_not hij (by simpa using hi) (by simpa using h)
theorem any_false {α : Type} {xs : List α} {p : α → Bool} (h : ∀ j, j < xs.length → ∀ x, xs[j]? = some x → p x = false) : xs.any p = false := by
  rw [List.any_eq_false]
  intro x hx
  obtain ⟨j, hj, rfl⟩ := List.getElem_of_mem hx
  simpa using h j hj _ (List.getElem?_eq_getElem hj)
theorem any_hit {α : Type} {xs : List α} {p : α → Bool} {i : Nat} (hi : i < xs.length) (h : p xs[i] = true) : xs.any p = true := List.any_eq_true.2 ⟨_, List.getElem_mem hi, h⟩
/-- Names at their own indices alone. -/
theorem symIdx_self {s : GSignature} {i : Nat} (hi : i < s.symbols.length) : symIdx s s.symbols[i].name = i ↔ ∀ j (hj : j < i), s.symbols[j].name ≠ s.symbols[i].name := by
  unfold symIdx
  constructor
  · intro h j hj e
    have h2 : fidx (fun x => decide (x.name = s.symbols[i].name)) s.symbols ≤ j := by
      unfold fidx
      cases hc : s.symbols.findIdx? (fun x => decide (x.name = s.symbols[i].name)) with
      | none => show (-1 : Int) ≤ j; omega
      | some k =>
        obtain ⟨hk, _, hlt⟩ := List.findIdx?_eq_some_iff_getElem.1 hc
        show (k : Int) ≤ j
        rcases Nat.lt_or_ge j k with g | g
        · have := hlt j g; simp [e] at this
        · omega
    omega
  · intro h
    exact fidx_hit hi (fun j hj x hx => by
      rw [List.getElem?_eq_getElem (by omega)] at hx
      cases hx
      simpa using h j hj) (by simp)
def ordG (s : GSignature) (order : List Int) : Int :=
  if order.length ≠ s.symbols.length then 2
  else if order.any (fun n => !isSym s n) = true then 3
  else if order.Nodup then 0 else 6
def ordF (s : GSignature) (order : List Int) : Int := if sigF s ≠ 0 then sigF s else ordG s order
end Go.SC
