/- The path order: plain laws. -/
import Derived.Test.YthhcemhignihlaaDoorScX
set_option linter.unusedSimpArgs false
set_option linter.unusedVariables false
namespace Go.SC
open Go

/-- A term ends at every place. -/
def places (s : GSignature) (t : List Int) : Prop := ∀ i, i < t.length → 0 ≤ ep s t 1 i
theorem term_places {s : GSignature} {t : List Int} (h : TermOK s t) : places s t := by
  have key : ∀ i, i ≤ t.length → ep s t (opn s t 0 i) i = t.length := by
    intro i
    induction i with
    | zero => intro _; exact h.ends
    | succ i ih =>
      intro hi
      have h1 := ih (by omega)
      have hpos : 1 ≤ opn s t 0 i := by
        rcases Nat.eq_zero_or_pos (opn s t 0 i) with h0 | h0
        · rw [h0, ep_zero (by omega)] at h1; omega
        · exact h0
      have e : t[0 + i]? = some t[i] := by rw [Nat.zero_add]; exact List.getElem?_eq_getElem (by omega)
      have h2 := opn_ep (s := s) e hpos
      rw [Nat.zero_add, Nat.zero_add] at h2
      rw [← h2]; exact h1
  intro i hi
  have h1 := key i (by omega)
  rcases Nat.eq_zero_or_pos (opn s t 0 i) with h0 | h0
  · rw [h0, ep_zero (by omega)] at h1; omega
  · rw [show opn s t 0 i = 1 + (opn s t 0 i - 1) by omega, ep_add 1 _ (by omega)] at h1
    split at h1 <;> omega

/-- The places of the arguments of the term at a place. -/
def args (s : GSignature) (t : List Int) (i : Nat) : List Int := argsP s t i (arN s (t.getD i 0))
theorem args_eq (s : GSignature) (t : List Int) (i : Nat) : args s t i = argsP s t i (arN s (t.getD i 0)) := rfl
theorem args_len (s : GSignature) (t : List Int) (i : Nat) : (args s t i).length = arN s (t.getD i 0) := argsP_len _ _ _ _
theorem args_get {s : GSignature} {t : List Int} {i k : Nat} (hp : places s t) (hi : i < t.length) (hk : k < (args s t i).length) :
    ∃ p : Nat, (args s t i)[k]? = some (p : Int) ∧ i < p ∧ p < t.length := by
  rw [args_len] at hk
  have h0 := hp i hi
  have e : t[i]? = some t[i] := List.getElem?_eq_getElem hi
  have eg : t.getD i 0 = t[i] := by rw [List.getD_eq_getElem?_getD, e]; rfl
  rw [ep_node 0 e, Nat.zero_add] at h0
  rw [eg] at hk
  obtain ⟨m, h1, h2, h3, _, _⟩ := arg_at hi h0 hk
  exact ⟨i + 1 + m, by rw [args, eg, argsP_get hk, h3], by omega, h2⟩
theorem args_mem {s : GSignature} {t : List Int} {i : Nat} (hp : places s t) (hi : i < t.length) {x : Int} (hx : x ∈ args s t i) : ∃ p : Nat, x = p ∧ i < p ∧ p < t.length := by
  obtain ⟨k, hk, rfl⟩ := List.getElem_of_mem hx
  obtain ⟨p, h1, h2, h3⟩ := args_get hp hi hk
  rw [List.getElem?_eq_getElem hk] at h1
  exact ⟨p, Option.some.inj h1, h2, h3⟩

def rk (order : List Int) (n : Int) : Int := fidx (fun x => decide (n = x)) order
theorem fidx_spec {α : Type} (p : α → Bool) (xs : List α) : (fidx p xs = -1 ∧ ∀ x ∈ xs, p x = false) ∨ ∃ (i : Nat) (h : i < xs.length), fidx p xs = i ∧ p xs[i] = true := by
  unfold fidx
  cases h : xs.findIdx? p with
  | none => exact .inl ⟨rfl, by simpa [List.findIdx?_eq_none_iff] using h⟩
  | some i =>
    obtain ⟨h1, h2, _⟩ := List.findIdx?_eq_some_iff_getElem.1 h
    exact .inr ⟨i, h1, rfl, h2⟩
theorem rk_mem {order : List Int} {n : Int} (h : n ∈ order) : ∃ (i : Nat) (hi : i < order.length), rk order n = i ∧ order[i] = n := by
  rcases fidx_spec (fun x => decide (n = x)) order with ⟨_, h2⟩ | ⟨i, hi, h1, h2⟩
  · have := h2 n h; simp at this
  · exact ⟨i, hi, h1, (by simpa using h2 : n = order[i]).symm⟩
theorem rk_inj {order : List Int} {x y : Int} (hx : x ∈ order) (hy : y ∈ order) : rk order x = rk order y ↔ x = y := by
  refine ⟨fun h => ?_, fun h => by rw [h]⟩
  obtain ⟨i, hi, h1, h2⟩ := rk_mem hx
  obtain ⟨j, hj, h3, h4⟩ := rk_mem hy
  have : i = j := by omega
  subst this
  rw [← h2, ← h4]
theorem nodup_len : ∀ (k : Nat) (l : List Int), l.Nodup → (∀ x ∈ l, 0 ≤ x ∧ x < k) → l.length ≤ k
  | 0, l, _, h => by
    cases l with
    | nil => simp
    | cons x l => have := h x (by simp); omega
  | k + 1, l, hn, h => by
    have h1 := nodup_len k (l.erase (k : Int)) (hn.erase _) fun x hx => by
      have h2 := h x (List.mem_of_mem_erase hx)
      have h3 : x ≠ (k : Int) := fun e => by
        subst e
        exact (hn.not_mem_erase) hx
      omega
    have h4 := List.length_erase (a := (k : Int)) (l := l)
    split at h4 <;> omega
theorem ord_all {s : GSignature} {order : List Int} (h : OrdOK s order) {n : Int} (h0 : 0 ≤ n) (h1 : n < s.symbols.length) : n ∈ order := by
  by_cases hm : n ∈ order
  · exact hm
  · have := nodup_len s.symbols.length (n :: order) (List.nodup_cons.2 ⟨hm, h.nodup⟩) fun x hx => by
      rcases List.mem_cons.1 hx with rfl | hx
      · exact ⟨h0, h1⟩
      · exact h.sym x hx
    rw [List.length_cons, h.len] at this
    omega

section
variable (s : GSignature) (order a b : List Int)
/-- The first arguments that differ decide. -/
def lexG (G : Nat → Nat → Bool) : List Int → List Int → Bool
  | p :: ps, q :: qs => if subT s a p.toNat = subT s b q.toNat then lexG G ps qs else G p.toNat q.toNat
  | _, _ => false
def cellG (G : Nat → Nat → Bool) (i j : Nat) : Bool :=
  if b.getD j 0 < 0 then decide (0 ≤ a.getD i 0) && (subT s a i).any (fun n => decide (b.getD j 0 = n))
  else if a.getD i 0 < 0 then false
  else if (args s a i).any (fun p => G p.toNat j || decide (subT s a p.toNat = subT s b j)) = true then true
  else if rk order (a.getD i 0) < rk order (b.getD j 0) then false
  else if (args s b j).any (fun q => !G i q.toNat) = true then false
  else if a.getD i 0 ≠ b.getD j 0 then true
  else lexG s a b G (args s a i) (args s b j)
def gtN : Nat → Nat → Nat → Bool
  | 0, _, _ => false
  | n + 1, i, j => cellG s order a b (gtN n) i j
def gt (i j : Nat) : Bool := gtN s order a b (a.length + b.length + 1) i j
end
theorem lexG_congr {s : GSignature} {a b : List Int} {G G' : Nat → Nat → Bool} : ∀ (ps qs : List Int), (∀ p ∈ ps, ∀ q ∈ qs, G p.toNat q.toNat = G' p.toNat q.toNat) → lexG s a b G ps qs = lexG s a b G' ps qs
  | [], _, _ => by simp [lexG]
  | _ :: _, [], _ => by simp [lexG]
  | p :: ps, q :: qs, h => by
    unfold lexG
    rw [lexG_congr ps qs fun x hx y hy => h x (by simp [hx]) y (by simp [hy]), h p (by simp) q (by simp)]
theorem any_congr' {α : Type} {f g : α → Bool} : ∀ (l : List α), (∀ x ∈ l, f x = g x) → l.any f = l.any g
  | [], _ => rfl
  | x :: l, h => by rw [List.any_cons, List.any_cons, h x (by simp), any_congr' l fun y hy => h y (by simp [hy])]
theorem cellG_congr {s : GSignature} {order a b : List Int} {G G' : Nat → Nat → Bool} {i j : Nat} (h1 : ∀ p ∈ args s a i, G p.toNat j = G' p.toNat j) (h2 : ∀ q ∈ args s b j, G i q.toNat = G' i q.toNat)
    (h3 : ∀ p ∈ args s a i, ∀ q ∈ args s b j, G p.toNat q.toNat = G' p.toNat q.toNat) : cellG s order a b G i j = cellG s order a b G' i j := by
  unfold cellG
  rw [any_congr' (args s a i) (f := fun p => G p.toNat j || decide (subT s a p.toNat = subT s b j)) (g := fun p => G' p.toNat j || decide (subT s a p.toNat = subT s b j)) fun p hp => by rw [h1 p hp],
    any_congr' (args s b j) (f := fun q => !G i q.toNat) (g := fun q => !G' i q.toNat) fun q hq => by rw [h2 q hq], lexG_congr _ _ h3]
section
variable {s : GSignature} {order a b : List Int} (ha : places s a) (hb : places s b)
include ha hb
theorem gtN_stable : ∀ (n m i j : Nat), i < a.length → j < b.length → (a.length - i) + (b.length - j) < n → (a.length - i) + (b.length - j) < m → gtN s order a b n i j = gtN s order a b m i j
  | 0, _, _, _, _, _, h, _ => by omega
  | _, 0, _, _, _, _, _, h => by omega
  | n + 1, m + 1, i, j, hi, hj, h1, h2 => by
    unfold gtN
    refine cellG_congr (fun p hp => ?_) (fun q hq => ?_) (fun p hp q hq => ?_)
    · obtain ⟨k, rfl, g1, g2⟩ := args_mem ha hi hp
      exact gtN_stable n m _ j (by simpa using g2) hj (by simp; omega) (by simp; omega)
    · obtain ⟨k, rfl, g1, g2⟩ := args_mem hb hj hq
      exact gtN_stable n m i _ hi (by simpa using g2) (by simp; omega) (by simp; omega)
    · obtain ⟨k, rfl, g1, g2⟩ := args_mem ha hi hp
      obtain ⟨l, rfl, g3, g4⟩ := args_mem hb hj hq
      exact gtN_stable n m _ _ (by simpa using g2) (by simpa using g4) (by simp; omega) (by simp; omega)
theorem gt_cell {i j : Nat} (hi : i < a.length) (hj : j < b.length) : gt s order a b i j = cellG s order a b (gt s order a b) i j := by
  show cellG s order a b (gtN s order a b (a.length + b.length)) i j = _
  refine cellG_congr (fun p hp => ?_) (fun q hq => ?_) (fun p hp q hq => ?_)
  · obtain ⟨k, rfl, g1, g2⟩ := args_mem ha hi hp
    exact gtN_stable ha hb _ _ _ j (by simpa using g2) hj (by simp; omega) (by simp; omega)
  · obtain ⟨k, rfl, g1, g2⟩ := args_mem hb hj hq
    exact gtN_stable ha hb _ _ i _ hi (by simpa using g2) (by simp; omega) (by simp; omega)
  · obtain ⟨k, rfl, g1, g2⟩ := args_mem ha hi hp
    obtain ⟨l, rfl, g3, g4⟩ := args_mem hb hj hq
    exact gtN_stable ha hb _ _ _ _ (by simpa using g2) (by simpa using g4) (by simp; omega) (by simp; omega)
end
theorem getD_at {t : List Int} {i : Nat} (h : i < t.length) : t.getD i 0 = t[i] := by rw [List.getD_eq_getElem?_getD, List.getElem?_eq_getElem h]; rfl
section
variable {s : GSignature} {order a b : List Int} (ha : places s a) (hb : places s b) {i j : Nat} (hi : i < a.length) (hj : j < b.length)
include ha hb
/-! The ways to an answer. -/
theorem gt_var (h : b[j] < 0) : gt s order a b i j = (decide (0 ≤ a[i]) && (subT s a i).any (fun n => decide (b[j] = n))) := by
  rw [gt_cell ha hb hi hj, cellG, getD_at hi, getD_at hj, if_pos h]
theorem gt_low (h : ¬ b[j] < 0) (h2 : a[i] < 0) : gt s order a b i j = false := by
  rw [gt_cell ha hb hi hj, cellG, getD_at hi, getD_at hj, if_neg h, if_pos h2]
theorem gt_arg (h : ¬ b[j] < 0) (h2 : ¬ a[i] < 0) {p : Int} (hp : p ∈ args s a i) (h3 : gt s order a b p.toNat j = true ∨ subT s a p.toNat = subT s b j) : gt s order a b i j = true := by
  rw [gt_cell ha hb hi hj, cellG, getD_at hi, getD_at hj, if_neg h, if_neg h2, if_pos]
  exact List.any_eq_true.2 ⟨p, hp, by simpa using h3⟩
theorem gt_rest (h : ¬ b[j] < 0) (h2 : ¬ a[i] < 0) (h3 : ∀ p ∈ args s a i, gt s order a b p.toNat j = false ∧ subT s a p.toNat ≠ subT s b j) :
    gt s order a b i j = if rk order a[i] < rk order b[j] then false else if (args s b j).any (fun q => !gt s order a b i q.toNat) = true then false else if a[i] ≠ b[j] then true else lexG s a b (gt s order a b) (args s a i) (args s b j) := by
  rw [gt_cell ha hb hi hj, cellG, getD_at hi, getD_at hj, if_neg h, if_neg h2, if_neg]
  intro hc
  obtain ⟨p, hp, h4⟩ := List.any_eq_true.1 hc
  have h5 := h3 p hp
  rw [h5.1] at h4
  simp [h5.2] at h4
end
theorem lexG_go {s : GSignature} {a b : List Int} {G : Nat → Nat → Bool} : ∀ {ps qs : List Int} {n : Nat}, (∀ m, m < n → ∀ p q : Int, ps[m]? = some p → qs[m]? = some q → subT s a p.toNat = subT s b q.toNat) → ∀ p q : Int, ps[n]? = some p → qs[n]? = some q → subT s a p.toNat ≠ subT s b q.toNat → lexG s a b G ps qs = G p.toNat q.toNat
  | [], _, _, _, _, _, h, _, _ => by simp at h
  | _ :: _, [], _, _, _, _, _, h, _ => by simp at h
  | x :: ps, y :: qs, 0, _, p, q, h1, h2, h3 => by
    simp only [List.getElem?_cons_zero, Option.some.injEq] at h1 h2
    subst h1; subst h2
    unfold lexG; rw [if_neg h3]
  | x :: ps, y :: qs, n + 1, h, p, q, h1, h2, h3 => by
    unfold lexG
    rw [if_pos (h 0 (by omega) x y rfl rfl)]
    exact lexG_go (n := n) (fun m hm p q g1 g2 => h (m + 1) (by omega) p q (by simpa using g1) (by simpa using g2)) p q (by simpa using h1) (by simpa using h2) h3
theorem lexG_end {s : GSignature} {a b : List Int} {G : Nat → Nat → Bool} : ∀ {ps qs : List Int}, (∀ (m : Nat) (p q : Int), ps[m]? = some p → qs[m]? = some q → subT s a p.toNat = subT s b q.toNat) → lexG s a b G ps qs = false
  | [], _, _ => by simp [lexG]
  | _ :: _, [], _ => by simp [lexG]
  | x :: ps, y :: qs, h => by
    unfold lexG
    rw [if_pos (h 0 x y rfl rfl)]
    exact lexG_end fun m p q g1 g2 => h (m + 1) p q (by simpa using g1) (by simpa using g2)

/-- The table's cells behind a place. -/
def tabOK (s : GSignature) (order a b : List Int) (i j : Nat) (L : List Value) : Prop :=
  ∀ p q : Nat, p < a.length → q < b.length → (i < p ∨ (p = i ∧ j < q)) → L[p * b.length + q]? = some (.bool (gt s order a b p q))
theorem count_any (l : List Int) (n : Int) : decide ((0 : Int) < (l.count n : Int)) = l.any (fun x => decide (n = x)) := by
  rw [Bool.eq_iff_iff, decide_eq_true_eq, List.any_eq_true]
  constructor
  · intro h
    exact ⟨n, List.count_pos_iff.1 (by omega), by simp⟩
  · rintro ⟨x, hx, h⟩
    obtain rfl : n = x := by simpa using h
    have := List.count_pos_iff.2 hx
    omega

theorem mul_at {p j la lb : Nat} (h1 : p < la) (h2 : j < lb) : p * lb + j < la * lb := by
  have : (p + 1) * lb ≤ la * lb := Nat.mul_le_mul_right _ h1
  rw [Nat.succ_mul] at this
  omega
theorem mul_sm {la lb : Nat} (h1 : la ≤ 24) (h2 : lb ≤ 24) : la * lb ≤ 576 := Nat.mul_le_mul h1 h2

/-- The whole table. -/
def tabG (s : GSignature) (order a b : List Int) : List Bool := (List.range (a.length * b.length)).map fun m => gt s order a b (m / b.length) (m % b.length)
theorem tabG_len (s : GSignature) (order a b : List Int) : (tabG s order a b).length = a.length * b.length := by simp [tabG]
theorem tab_flat {s : GSignature} {order a b : List Int} {L : List Value} (hb : 0 < b.length) (hL : L.length = a.length * b.length)
    (h : ∀ p q : Nat, p < a.length → q < b.length → L[p * b.length + q]? = some (.bool (gt s order a b p q))) : L = flat (tabG s order a b) := by
  refine List.ext_getElem? fun m => ?_
  have hfl : (flat (tabG s order a b)).length = a.length * b.length := by rw [flat_len, tabG_len]; exact Nat.mul_one _
  rcases Nat.lt_or_ge m (a.length * b.length) with hm | hm
  · have h1 : m / b.length < a.length := Nat.div_lt_of_lt_mul (by rw [Nat.mul_comm]; exact hm)
    have h2 : m % b.length < b.length := Nat.mod_lt _ hb
    have h3 := h _ _ h1 h2
    rw [Nat.mul_comm, Nat.div_add_mod] at h3
    rw [h3]
    have h4 : (tabG s order a b)[m]? = some (gt s order a b (m / b.length) (m % b.length)) := by
      unfold tabG; rw [List.getElem?_map, List.getElem?_range hm]; rfl
    have h5 := flat_get (tabG s order a b) m _ h4
    have hk : Enc.k Bool = 1 := rfl
    rw [hk, Nat.mul_one] at h5
    have h6 : ((flat (tabG s order a b)).drop m).take 1 = [.bool (gt s order a b (m / b.length) (m % b.length))] := h5
    have h7 := congrArg (fun l => l[0]?) h6
    simpa using h7.symm
  · rw [List.getElem?_eq_none (by omega), List.getElem?_eq_none (by omega)]
theorem tab_set {s : GSignature} {order a b : List Int} {L : List Value} {i j : Nat} (hi : i < a.length) (hj : j < b.length) (hL : L.length = a.length * b.length)
    (h : ∀ p q : Nat, p < a.length → q < b.length → (i < p ∨ (p = i ∧ j < q)) → L[p * b.length + q]? = some (.bool (gt s order a b p q))) :
    ∀ p q : Nat, p < a.length → q < b.length → (i < p ∨ (p = i ∧ j ≤ q)) → (L.set (i * b.length + j) (.bool (gt s order a b i j)))[p * b.length + q]? = some (.bool (gt s order a b p q)) := by
  intro p q hp hq hc
  have m1 := mul_at hi hj
  by_cases e : i * b.length + j = p * b.length + q
  · have e1 : i = p := by
      have g1 : (i * b.length + j) / b.length = i := by rw [Nat.mul_comm, Nat.mul_add_div (by omega), Nat.div_eq_of_lt hj, Nat.add_zero]
      have g2 : (p * b.length + q) / b.length = p := by rw [Nat.mul_comm, Nat.mul_add_div (by omega), Nat.div_eq_of_lt hq, Nat.add_zero]
      rw [← g1, e, g2]
    subst e1
    have e2 : j = q := by omega
    subst e2
    rw [List.getElem?_set_self (by omega)]
  · rw [List.getElem?_set_ne e]
    refine h p q hp hq ?_
    rcases hc with hc | ⟨rfl, hc⟩
    · exact .inl hc
    · refine .inr ⟨rfl, ?_⟩
      have : j ≠ q := fun e1 => e (by rw [e1])
      omega
end Go.SC
