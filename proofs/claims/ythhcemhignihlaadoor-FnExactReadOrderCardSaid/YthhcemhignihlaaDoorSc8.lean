/- Encodings, theories, records: plain laws. -/
import Derived.Test.YthhcemhignihlaaDoorSc7
import Derived.Lib.Bytealg
set_option linter.unusedSimpArgs false
set_option linter.unusedVariables false
namespace Go.SC
open Go

/-- A node's byte. -/
def packN (n : Int) : UInt8 := UInt8.ofNat (if n < 0 then 31 - n else n + 1).toNat
def packT (t : List Int) : List UInt8 := t.map packN
/-- Numbers that are a node's, of any signature. -/
def smallN (t : List Int) : Prop := ∀ n ∈ t, -12 ≤ n ∧ n < 6
theorem packN_neg {n : Int} (h : -12 ≤ n) (h2 : n < 0) : ((packN n).toNat : Int) = 31 - n := by
  unfold packN
  rw [if_pos h2, UInt8.toNat_ofNat']
  omega
theorem packN_pos {n : Int} (h : 0 ≤ n) (h2 : n < 6) : ((packN n).toNat : Int) = n + 1 := by
  unfold packN
  rw [if_neg (by omega), UInt8.toNat_ofNat']
  omega
theorem packT_nil : packT [] = [] := rfl
theorem packT_take {t : List Int} {i : Nat} (h : i < t.length) : packT (t.take (i + 1)) = packT (t.take i) ++ [packN t[i]] := by
  unfold packT
  rw [List.take_succ_eq_append_getElem h, List.map_append]; rfl
theorem packT_len (t : List Int) : (packT t).length = t.length := by simp [packT]
theorem nodes_small {s : GSignature} {t : List Int} (h : SigOK s) (hn : nodes s t) : smallN t := fun n hx => by
  have h1 := hn n hx
  have h2 := h.len
  omega
def groundG (s : GSignature) (t : List Int) : Int := if termG s t ≠ 0 then termG s t else if t.all (fun n => decide (0 ≤ n)) = true then 0 else 1

/-! ### comparing bytes -/
theorem cmpB_eq {xs ys : List UInt8} {i : Nat} (h : ∀ j, j < i → xs[j]? = ys[j]?) : Lib.compareBytes xs ys = Lib.compareBytes (xs.drop i) (ys.drop i) := by
  induction i generalizing xs ys with
  | zero => simp
  | succ i ih =>
    match xs, ys with
    | [], [] => simp
    | [], y :: ys => have := h 0 (by omega); simp at this
    | x :: xs, [] => have := h 0 (by omega); simp at this
    | x :: xs, y :: ys =>
      have h0 := h 0 (by omega)
      simp only [List.getElem?_cons_zero, Option.some.injEq] at h0
      subst h0
      rw [List.drop_succ_cons, List.drop_succ_cons, ← ih fun j hj => by simpa using h (j + 1) (by omega)]
      simp [Lib.compareBytes]
theorem cmpB_lt {xs ys : List UInt8} {i : Nat} (h : ∀ j, j < i → xs[j]? = ys[j]?) (h1 : i < xs.length) (h2 : i < ys.length) (h3 : xs[i] < ys[i]) : Lib.compareBytes xs ys = -1 := by
  rw [cmpB_eq h, List.drop_eq_getElem_cons h1, List.drop_eq_getElem_cons h2]
  simp [Lib.compareBytes, h3]
theorem cmpB_gt {xs ys : List UInt8} {i : Nat} (h : ∀ j, j < i → xs[j]? = ys[j]?) (h1 : i < xs.length) (h2 : i < ys.length) (h3 : ys[i] < xs[i]) : Lib.compareBytes xs ys = 1 := by
  rw [cmpB_eq h, List.drop_eq_getElem_cons h1, List.drop_eq_getElem_cons h2]
  have : ¬ xs[i] < ys[i] := fun h => by rw [UInt8.lt_iff_toNat_lt] at h h3; omega
  simp [Lib.compareBytes, h3, this]
theorem cmpB_end {xs ys : List UInt8} {i : Nat} (h : ∀ j, j < i → xs[j]? = ys[j]?) (h1 : xs.length ≤ i ∨ ys.length ≤ i) : Lib.compareBytes xs ys = if xs.length < ys.length then -1 else if ys.length < xs.length then 1 else 0 := by
  rw [cmpB_eq h]
  rcases h1 with h1 | h1
  · rw [List.drop_eq_nil_of_le h1]
    rcases Nat.lt_or_ge i ys.length with h2 | h2
    · rw [List.drop_eq_getElem_cons h2, if_pos (by omega)]; rfl
    · rw [List.drop_eq_nil_of_le h2]
      have : ¬ xs.length < ys.length := fun h3 => by
        have := h xs.length (by omega)
        rw [List.getElem?_eq_none (Nat.le_refl _), List.getElem?_eq_getElem h3] at this; cases this
      rw [if_neg this]
      have : ¬ ys.length < xs.length := fun h3 => by
        have := h ys.length (by omega)
        rw [List.getElem?_eq_none (Nat.le_refl _), List.getElem?_eq_getElem h3] at this; cases this
      rw [if_neg this]; rfl
  · rw [List.drop_eq_nil_of_le h1]
    rcases Nat.lt_or_ge i xs.length with h2 | h2
    · rw [List.drop_eq_getElem_cons h2, if_neg (by omega), if_pos (by omega)]; rfl
    · rw [List.drop_eq_nil_of_le h2]
      have : ¬ xs.length < ys.length := fun h3 => by
        have := h xs.length (by omega)
        rw [List.getElem?_eq_none (Nat.le_refl _), List.getElem?_eq_getElem h3] at this; cases this
      rw [if_neg this]
      have : ¬ ys.length < xs.length := fun h3 => by
        have := h ys.length (by omega)
        rw [List.getElem?_eq_none (Nat.le_refl _), List.getElem?_eq_getElem h3] at this; cases this
      rw [if_neg this]; rfl
theorem cmpB_range (xs ys : List UInt8) : Lib.compareBytes xs ys = -1 ∨ Lib.compareBytes xs ys = 0 ∨ Lib.compareBytes xs ys = 1 := by
  induction xs generalizing ys with
  | nil => cases ys <;> simp [Lib.compareBytes]
  | cons x xs ih =>
    cases ys with
    | nil => simp [Lib.compareBytes]
    | cons y ys =>
      unfold Lib.compareBytes
      split
      · exact .inl rfl
      · split
        · exact .inr (.inr rfl)
        · exact ih ys

/-! ### records of a book -/
def recOne (s : GSignature) (r : GRecord) : Int := if groundG s r.term ≠ 0 then groundG s r.term else if 8 < r.term.length then 2 else if 0 ≤ r.value ∧ r.value ≤ 65535 then 0 else 3
def okG (s : GSignature) (r : GRecord) : Prop := recOne s r = 0
def rising : List GRecord → Bool
  | x :: y :: l => decide (Lib.compareBytes (packT x.term) (packT y.term) < 0) && rising (y :: l)
  | _ => true
def bookRec (s : GSignature) (l : List GRecord) : Int := if firstF (recOne s) l ≠ 0 then firstF (recOne s) l else if rising l = true then 0 else 1
theorem rising_no : ∀ {l : List GRecord} {k : Nat} {x y : GRecord}, l[k]? = some x → l[k + 1]? = some y → ¬ Lib.compareBytes (packT x.term) (packT y.term) < 0 → rising l = false
  | [], _, _, _, h, _, _ => by simp at h
  | [_], k, _, _, _, h, _ => by simp at h
  | a :: b :: l, 0, x, y, h1, h2, h3 => by
    simp only [List.getElem?_cons_zero, List.getElem?_cons_succ, Option.some.injEq] at h1 h2
    subst h1; subst h2
    simp [rising, h3]
  | a :: b :: l, k + 1, x, y, h1, h2, h3 => by
    have := rising_no (l := b :: l) (k := k) (by simpa using h1) (by simpa using h2) h3
    simp [rising, this]
theorem rising_yes : ∀ {l : List GRecord}, (∀ (k : Nat) x y, l[k]? = some x → l[k + 1]? = some y → Lib.compareBytes (packT x.term) (packT y.term) < 0) → rising l = true
  | [], _ => rfl
  | [_], _ => rfl
  | a :: b :: l, h => by
    unfold rising
    rw [rising_yes (l := b :: l) fun k x y h1 h2 => h (k + 1) x y (by simpa using h1) (by simpa using h2)]
    simpa using h 0 a b rfl rfl
theorem okG_term {s : GSignature} {r : GRecord} (h : okG s r) : TermOK s r.term ∧ r.term.length ≤ 8 ∧ (∀ n ∈ r.term, 0 ≤ n) ∧ 0 ≤ r.value ∧ r.value ≤ 65535 := by
  unfold okG recOne groundG at h
  by_cases h1 : termG s r.term = 0
  · by_cases h2 : r.term.all (fun n => decide (0 ≤ n)) = true
    · by_cases h3 : 8 < r.term.length
      · simp [h1, h2, h3] at h
      · by_cases h4 : 0 ≤ r.value ∧ r.value ≤ 65535
        · exact ⟨term_ok h1, by omega, fun n hn => by simpa using List.all_eq_true.1 h2 n hn, h4.1, h4.2⟩
        · simp [h1, h2, h3] at h; omega
    · simp [h1, h2] at h
  · simp [h1] at h

/-! ### theories -/
def fallsB (s : GSignature) (order : List Int) (l : List GEquation) : Bool := l.all fun e => gt s order e.left e.right 0 0
def thG (s : GSignature) (x : GTheory) : Int := if ordG s x.order ≠ 0 then ordG s x.order else if eqsG s x.equations ≠ 0 then eqsG s x.equations else if rulesG s x.rules ≠ 0 then rulesG s x.rules else if fallsB s x.order x.rules = true then 0 else 10
def thF (s : GSignature) (x : GTheory) : Int := if sigF s ≠ 0 then sigF s else thG s x
theorem rulesG_zero {s : GSignature} {l : List GEquation} (h : rulesG s l = 0) : l.length ≤ 12 ∧ ∀ e ∈ l, TermOK s e.left ∧ TermOK s e.right ∧ ruleOK e = true := by
  unfold rulesG at h
  by_cases h1 : eqsG s l = 0
  · have h2 := eqsG_zero h1
    rw [if_neg (by simp [h1])] at h
    split at h
    · rename_i h3
      refine ⟨h2.1, fun e he => ?_⟩
      have h4 := eqnG_zero (h2.2 e he)
      exact ⟨h4.1, h4.2.1, List.all_eq_true.1 h3 e he⟩
    · cases h
  · rw [if_pos h1] at h; exact absurd h h1

def bookF (x : GBook) : Int := if sigF x.symbols ≠ 0 then sigF x.symbols else if ¬ (1 ≤ x.version ∧ x.version ≤ 60000) then 3 else if thG x.symbols x.theory ≠ 0 then thG x.symbols x.theory
  else if x.moving = true ∧ thG x.symbols x.next_ ≠ 0 then thG x.symbols x.next_ else if x.moving = false ∧ 0 < x.next_.order.length + x.next_.equations.length + x.next_.rules.length + x.cursor.length then 8
  else if 16 < x.cursor.length ∨ 248 < x.records.length then 2 else bookRec x.symbols x.records
end Go.SC
