/- Terms: plain laws: where a term ends, which lists are terms, a term's text. -/
import Derived.Test.YthhcemhignihlaaDoorScU
set_option linter.unusedSimpArgs false
set_option linter.unusedVariables false
namespace Go.SC
open Go

/-- The number of a node's arguments. -/
def arN (s : GSignature) (n : Int) : Nat := if n < 0 then 0 else match s.symbols[n.toNat]? with
  | some x => x.arity.toNat
  | none => 0
/-- What lies behind k terms. -/
def skip (s : GSignature) : Nat → List Int → Option (List Int)
  | 0, l => some l
  | _ + 1, [] => none
  | k + 1, x :: l => skip s (k + arN s x) l
theorem skip_zero (s : GSignature) (l : List Int) : skip s 0 l = some l := by cases l <;> rfl
theorem skip_nil (s : GSignature) (k : Nat) : skip s (k + 1) [] = none := rfl
theorem skip_cons (s : GSignature) (k : Nat) (x : Int) (l : List Int) : skip s (k + 1) (x :: l) = skip s (k + arN s x) l := rfl
theorem skip_add (s : GSignature) (b : Nat) : ∀ (l : List Int) (a : Nat), skip s (a + b) l = (skip s a l).bind (skip s b)
  | l, 0 => by rw [skip_zero, Nat.zero_add]; rfl
  | [], a + 1 => by rw [show a + 1 + b = (a + b) + 1 by omega, skip_nil, skip_nil]; rfl
  | x :: l, a + 1 => by
    rw [show a + 1 + b = (a + b) + 1 by omega, skip_cons, skip_cons, show a + b + arN s x = (a + arN s x) + b by omega]
    exact skip_add s b l _
theorem skip_drop (s : GSignature) : ∀ (l : List Int) (k : Nat) (r : List Int), skip s k l = some r → ∃ m, k ≤ m ∧ m ≤ l.length ∧ r = l.drop m
  | l, 0, r, h => by rw [skip_zero] at h; cases h; exact ⟨0, Nat.le_refl _, Nat.zero_le _, rfl⟩
  | [], k + 1, r, h => by cases h
  | x :: l, k + 1, r, h => by
    rw [skip_cons] at h
    obtain ⟨m, h1, h2, rfl⟩ := skip_drop s l _ _ h
    exact ⟨m + 1, by omega, by simp; omega, rfl⟩
/-- The place behind k terms that begin at a place; or -1. -/
def ep (s : GSignature) (t : List Int) (k at_ : Nat) : Int := match skip s k (t.drop at_) with
  | some r => (t.length : Int) - r.length
  | none => -1
theorem ep_cases {s : GSignature} {t : List Int} (k : Nat) {a : Nat} (h : a ≤ t.length) :
    (ep s t k a = -1 ∧ skip s k (t.drop a) = none) ∨ ∃ m, k ≤ m ∧ a + m ≤ t.length ∧ ep s t k a = (a + m : Nat) ∧ skip s k (t.drop a) = some (t.drop (a + m)) := by
  unfold ep
  cases hs : skip s k (t.drop a) with
  | none => exact .inl ⟨rfl, rfl⟩
  | some r =>
    obtain ⟨m, h1, h2, rfl⟩ := skip_drop s _ _ _ hs
    rw [List.length_drop] at h2
    refine .inr ⟨m, h1, by omega, ?_, by rw [List.drop_drop]⟩
    simp only [List.length_drop]
    omega
theorem ep_zero {s : GSignature} {t : List Int} {a : Nat} (h : a ≤ t.length) : ep s t 0 a = a := by
  unfold ep
  rw [skip_zero]
  simp only [List.length_drop]
  omega
theorem ep_add {s : GSignature} {t : List Int} (k j : Nat) {a : Nat} (h : a ≤ t.length) : ep s t (k + j) a = if ep s t k a < 0 then -1 else ep s t j (ep s t k a).toNat := by
  rcases ep_cases (s := s) (t := t) k h with ⟨h1, h2⟩ | ⟨m, h1, h2, h3, h4⟩
  · rw [h1, if_pos (by omega)]
    unfold ep
    rw [skip_add, h2]; rfl
  · rw [h3, if_neg (by omega), Int.toNat_natCast]
    show (match skip s (k + j) (t.drop a) with | some r => _ | none => _) = (match skip s j (t.drop (a + m)) with | some r => _ | none => _)
    rw [skip_add, h4]; rfl
theorem ep_node {s : GSignature} {t : List Int} (k : Nat) {a : Nat} {x : Int} (h : t[a]? = some x) : ep s t (k + 1) a = ep s t (k + arN s x) (a + 1) := by
  obtain ⟨h1, h2⟩ := List.getElem?_eq_some_iff.1 h
  unfold ep
  rw [List.drop_eq_getElem_cons h1, h2, skip_cons]
theorem ep_out {s : GSignature} {t : List Int} (k : Nat) {a : Nat} (h : t.length ≤ a) : ep s t (k + 1) a = -1 := by
  unfold ep
  rw [List.drop_eq_nil_of_le h, skip_nil]
/-- How many terms are open behind i numbers. -/
def opn (s : GSignature) (t : List Int) (a : Nat) : Nat → Nat
  | 0 => 1
  | i + 1 => opn s t a i - 1 + arN s (t.getD (a + i) 0)
theorem opn_zero (s : GSignature) (t : List Int) (a : Nat) : opn s t a 0 = 1 := rfl
theorem opn_succ {s : GSignature} {t : List Int} {a i : Nat} {x : Int} (h : t[a + i]? = some x) : opn s t a (i + 1) = opn s t a i - 1 + arN s x := by
  show opn s t a i - 1 + arN s (t.getD (a + i) 0) = _
  rw [List.getD_eq_getElem?_getD, h]; rfl
theorem opn_ep {s : GSignature} {t : List Int} {a i : Nat} {x : Int} (h : t[a + i]? = some x) (h1 : 1 ≤ opn s t a i) : ep s t (opn s t a i) (a + i) = ep s t (opn s t a (i + 1)) (a + (i + 1)) := by
  rw [opn_succ h]
  obtain ⟨k, hk⟩ : ∃ k, opn s t a i = k + 1 := ⟨opn s t a i - 1, by omega⟩
  rw [hk, ep_node k h, Nat.add_sub_cancel, Nat.add_assoc]
def isNode (s : GSignature) (n : Int) : Bool := isSym s n || decide (-12 ≤ n ∧ n ≤ -1)
/-- Every number of the list is that of a symbol, or a variable. -/
def nodes (s : GSignature) (t : List Int) : Prop := ∀ n ∈ t, -12 ≤ n ∧ n < s.symbols.length
theorem nodes_any {s : GSignature} {t : List Int} (h : t.any (fun n => !isNode s n) = false) : nodes s t := by
  intro n hn
  rw [List.any_eq_false] at h
  have := h n hn
  simp only [isNode, isSym, Bool.not_eq_true, Bool.not_eq_false', Bool.or_eq_true, decide_eq_true_eq] at this
  omega
/-- Of a right signature. -/
def termG (s : GSignature) (t : List Int) : Int := if t.length < 1 ∨ 24 < t.length then 2 else if t.any (fun n => !isNode s n) = true then 3 else if ep s t 1 0 = t.length then 0 else 1
def termF (s : GSignature) (t : List Int) : Int := if sigF s ≠ 0 then sigF s else termG s t
structure TermOK (s : GSignature) (t : List Int) : Prop where
  len : 1 ≤ t.length ∧ t.length ≤ 24
  nodes : nodes s t
  ends : ep s t 1 0 = t.length
theorem term_ok {s : GSignature} {t : List Int} (h : termG s t = 0) : TermOK s t := by
  unfold termG at h
  split at h
  · cases h
  · rename_i h1
    split at h
    · cases h
    · rename_i h2
      split at h
      · rename_i h3; exact ⟨by omega, nodes_any (by simpa using h2), h3⟩
      · cases h
theorem termF_zero {s : GSignature} {t : List Int} (h : termF s t = 0) : sigF s = 0 ∧ termG s t = 0 := by
  unfold termF at h
  split at h
  · rename_i h1; exact absurd h h1
  · rename_i h1; exact ⟨by simpa using h1, h⟩
theorem arN_le {s : GSignature} (h : SigOK s) (n : Int) : arN s n ≤ 2 := by
  unfold arN
  split
  · omega
  · split
    · rename_i x hx; have := h.nm x (List.mem_of_getElem? hx); omega
    · omega
theorem arN_neg {s : GSignature} {n : Int} (h : n < 0) : arN s n = 0 := if_pos h
theorem arN_sym {s : GSignature} {n : Int} {x : GSymbol} (h0 : 0 ≤ n) (h : s.symbols[n.toNat]? = some x) : arN s n = x.arity.toNat := by
  unfold arN; rw [if_neg (by omega), h]
@[go_sem] theorem appHeap_get (H : AH) (k m n need cap kk : Nat) (cells : List Value) (h1 : n ≠ m) (h2 : n ≠ k) : appHeap H ⟨some k, cells, need, cap, kk⟩ m n = H n := by
  simp [appHeap, upd, h1, h2]
/-- A loop that appends to one list, with something kept true. -/
theorem tr_accI {P : Program} {N0 : Nat} {c : Code} {Q : APost} {s : List Value} {H H0 : AH} {B0 Bd : Nat} {α : Type} [Enc α] (N : Nat) (I : Nat → Prop) (hI0 : I 0) (acc : Nat → List α) (sl : Nat → Value → List (Nat × Value)) {n0 c0 : Nat} (hc0 : 0 < c0) (hn0 : B0 ≤ n0 ∧ n0 < Bd)
    (hs : FitL s (sl 0 (.slice (some ⟨n0, 0, some (Enc.k α)⟩) (acc 0).length c0))) (hH : Le (upd H0 n0 (some ⟨flat (acc 0), true⟩)) H)
    (round : ∀ i n c0 B, I i → i ≤ N → 0 < c0 → B0 ≤ n → n < B → Bd ≤ B → HB (upd H0 n (some ⟨flat (acc i), true⟩)) B →
      Tr P B c (thenQ (fun s' H' B' => i < N ∧ I (i + 1) ∧ ∃ n' c', 0 < c' ∧ B0 ≤ n' ∧ n' < B' ∧ Le (upd H0 n' (some ⟨flat (acc (i + 1)), true⟩)) H' ∧ s'.length = s.length ∧ FitL s' (sl (i + 1) (.slice (some ⟨n', 0, some (Enc.k α)⟩) (acc (i + 1)).length c'))) Q)
        (aS s.length unk (sl i (.slice (some ⟨n, 0, some (Enc.k α)⟩) (acc i).length c0))) (upd H0 n (some ⟨flat (acc i), true⟩)) B) : Tr P N0 (.loop c) Q s H Bd := by
  refine tr_inv (X := Nat) (fun i s' H' B' => I i ∧ i ≤ N ∧ ∃ n c0, 0 < c0 ∧ B0 ≤ n ∧ n < B' ∧ s' = aS s.length unk (sl i (.slice (some ⟨n, 0, some (Enc.k α)⟩) (acc i).length c0)) ∧ H' = upd H0 n (some ⟨flat (acc i), true⟩)) (fun i => N - i) 0 _ _ Bd ⟨hs.fits rfl, hH, Nat.le_refl _⟩
    ⟨hI0, Nat.zero_le _, n0, c0, hc0, hn0.1, hn0.2, rfl, rfl⟩ ?_
  rintro i s' H' B' ⟨hIi, hi, n, c1, h1, h2, h3, rfl, rfl⟩ hB hb'
  refine (round i n c1 B' hIi hi h1 h2 h3 hB hb').mono fun e s2 H2 B2 hq => ?_
  cases e with
  | normal =>
    obtain ⟨g1, gI, n', c', g2, g3, g4, g5, g7, g6⟩ := hq
    exact ⟨i + 1, _, _, B2, by omega, ⟨g6.fits g7, g5, Nat.le_refl _⟩, gI, g1, n', c', g2, g3, g4, rfl, rfl⟩
  | _ => exact hq

/-! ### one letter, numerals -/
def oneB (z : Int) : ByteArray := ⟨#[UInt8.ofNat z.toNat]⟩
@[push_cast] theorem oneB_size (z : Int) : (oneB z).size = 1 := (rfl)
@[go_sem] theorem astring_one {P : Program} {t u : Nat} [h : TyBy P t] [h' : TyS P u] (H : AH) (n : Nat) (z : Int) (c : Nat) : astring P (upd H n (some ⟨[.int .u8 z], true⟩)) t u (.slice (some ⟨n, 0, some 1⟩) 1 c) = some (.string (oneB z)) := by
  have hc : acellsOf (upd H n (some ⟨[.int .u8 z], true⟩)) 1 (.slice (some ⟨n, 0, some 1⟩) 1 c) = some (1, [.int .u8 z]) := by
    simp [acellsOf, upd_same]
  simp only [astring, undBytes_T, undString_T, and_self, if_true, hc, anums, Option.map_some]
  rfl
theorem itoaB_small {n : Int} (h0 : 0 ≤ n) (h : n < 10) : itoaB n = oneB ((48 + n) % 256) := by
  unfold itoaB oneB Lib.itoa
  rw [if_neg (by omega), Lib.decDigits, dif_pos (by omega), show ((48 + n) % 256).toNat = 48 + n.toNat by omega]
theorem itoaB_big {n : Int} (h : 10 ≤ n) : itoaB n = itoaB (n.tdiv 10) ++ oneB ((48 + n.tmod 10) % 256) := by
  refine bext ?_
  rw [bapp_list]
  have h1 : n.tdiv 10 = n / 10 := Int.tdiv_eq_ediv_of_nonneg (by omega)
  have h2 : n.tmod 10 = n % 10 := Int.tmod_eq_emod_of_nonneg (by omega)
  unfold itoaB oneB Lib.itoa
  rw [h1, h2, if_neg (by omega), if_neg (by omega), Lib.decDigits, dif_neg (by omega), show ((48 + n % 10) % 256).toNat = 48 + n.toNat % 10 by omega, show (n / 10).toNat = n.toNat / 10 by omega]
theorem dec_len : ∀ (k u : Nat), u < 10 ^ (k + 1) → (Lib.decDigits u).length ≤ k + 1
  | 0, u, h => by rw [Lib.decDigits, dif_pos (by omega)]; simp
  | k + 1, u, h => by
    rw [Lib.decDigits]
    split
    · simp
    · have := dec_len k (u / 10) (by rw [Nat.pow_succ] at h; omega)
      simp only [List.length_append, List.length_singleton]
      omega
theorem itoaB_size {n : Int} (h0 : 0 ≤ n) (h : n ≤ 9223372036854775807) : (itoaB n).size ≤ 20 := by
  have := dec_len 19 n.toNat (by omega)
  show (Lib.itoa n).length ≤ 20
  unfold Lib.itoa
  rw [if_neg (by omega)]
  exact this
/-! ### a term's text -/
def txtF (s : GSignature) : Nat → List Int → ByteArray
  | 0, _ => ⟨#[]⟩
  | _ + 1, [] => ⟨#[]⟩
  | f + 1, x :: l => if x < 0 then oneB ((64 - x) % 256) else if arN s x = 0 then nameAt s x else
    nameAt s x ++ ⟨#[40]⟩ ++ joinB ((List.range (arN s x)).map fun i => match skip s i l with
      | some r => txtF s f r
      | none => ⟨#[]⟩) ⟨#[44]⟩ ++ ⟨#[41]⟩
theorem txtF_two (s : GSignature) : ∀ (f g : Nat) (l : List Int), l.length ≤ f → l.length ≤ g → txtF s f l = txtF s g l
  | 0, 0, l, _, _ => rfl
  | 0, g + 1, [], _, _ => rfl
  | f + 1, 0, [], _, _ => rfl
  | f + 1, g + 1, [], _, _ => rfl
  | 0, _, _ :: _, h, _ => by simp at h
  | _, 0, _ :: _, _, h => by simp at h
  | f + 1, g + 1, x :: l, h1, h2 => by
    simp only [List.length_cons] at h1 h2
    have e : ((List.range (arN s x)).map fun i => match skip s i l with
      | some r => txtF s f r
      | none => (⟨#[]⟩ : ByteArray)) = (List.range (arN s x)).map fun i => match skip s i l with
      | some r => txtF s g r
      | none => ⟨#[]⟩ := by
      refine List.map_congr_left fun i _ => ?_
      cases hs : skip s i l with
      | none => rfl
      | some r =>
        obtain ⟨m, _, _, rfl⟩ := skip_drop s _ _ _ hs
        exact txtF_two s f g _ (by simp; omega) (by simp; omega)
    show (if x < 0 then _ else if arN s x = 0 then _ else _) = (if x < 0 then _ else if arN s x = 0 then _ else _)
    rw [e]
/-- The text of the term that begins at a place. -/
def tx (s : GSignature) (t : List Int) (a : Nat) : ByteArray := txtF s (t.drop a).length (t.drop a)
/-- The texts of the first k arguments of the term at a place. -/
def txs (s : GSignature) (t : List Int) (a k : Nat) : List ByteArray := (List.range k).map fun i => tx s t (ep s t i (a + 1)).toNat
theorem txs_zero (s : GSignature) (t : List Int) (a : Nat) : txs s t a 0 = [] := rfl
theorem txs_succ (s : GSignature) (t : List Int) (a k : Nat) : txs s t a (k + 1) = txs s t a k ++ [tx s t (ep s t k (a + 1)).toNat] := by
  unfold txs; rw [List.range_succ, List.map_append]; rfl
theorem txs_len (s : GSignature) (t : List Int) (a k : Nat) : (txs s t a k).length = k := by simp [txs]
theorem tx_node {s : GSignature} {t : List Int} {a : Nat} {x : Int} (h : t[a]? = some x) (he : 0 ≤ ep s t 1 a) :
    tx s t a = if x < 0 then oneB ((64 - x) % 256) else if arN s x = 0 then nameAt s x else nameAt s x ++ ⟨#[40]⟩ ++ joinB (txs s t a (arN s x)) ⟨#[44]⟩ ++ ⟨#[41]⟩ := by
  obtain ⟨h1, h2⟩ := List.getElem?_eq_some_iff.1 h
  rw [ep_node 0 h, Nat.zero_add] at he
  unfold tx
  rw [List.drop_eq_getElem_cons h1, h2]
  show (if x < 0 then _ else if arN s x = 0 then _ else nameAt s x ++ ⟨#[40]⟩ ++ joinB _ ⟨#[44]⟩ ++ ⟨#[41]⟩) = _
  have e : ((List.range (arN s x)).map fun i => match skip s i (t.drop (a + 1)) with
      | some r => txtF s (t.drop (a + 1)).length r
      | none => (⟨#[]⟩ : ByteArray)) = txs s t a (arN s x) := by
    refine List.map_congr_left fun i hi => ?_
    have hi := List.mem_range.1 hi
    rcases ep_cases (s := s) (t := t) i (show a + 1 ≤ t.length by omega) with ⟨q1, _⟩ | ⟨m, q1, q2, q3, q4⟩
    · rw [show arN s x = i + (arN s x - i) by omega, ep_add i _ (by omega), q1, if_pos (by omega)] at he
      omega
    · rw [q4, q3, Int.toNat_natCast]
      exact txtF_two s _ _ _ (by simp; omega) (Nat.le_refl _)
  rw [e]
theorem txtF_size {s : GSignature} (h : SigOK s) : ∀ (f : Nat) (l : List Int), (txtF s f l).size + 7 ≤ 7 * 2 ^ f
  | 0, _ => Nat.le_refl 7
  | f + 1, [] => by
    have : 1 ≤ 2 ^ f := Nat.one_le_two_pow
    show 0 + 7 ≤ _
    rw [Nat.pow_succ]; omega
  | f + 1, x :: l => by
    have hp : 1 ≤ 2 ^ f := Nat.one_le_two_pow
    have hn := nameAt_size h x
    have ha := arN_le h x
    rw [Nat.pow_succ]
    unfold txtF
    split
    · rw [oneB_size]; omega
    · split
      · omega
      · have hj := joinB_size ((List.range (arN s x)).map fun i => match skip s i l with
          | some r => txtF s f r
          | none => (⟨#[]⟩ : ByteArray)) ⟨#[44]⟩ (7 * 2 ^ f - 7) (fun y hy => by
            obtain ⟨i, _, rfl⟩ := List.mem_map.1 hy
            split
            · have := txtF_size h f ‹_›; omega
            · exact Nat.zero_le _)
        rw [List.length_map, List.length_range, show (⟨#[44]⟩ : ByteArray).size = 1 from rfl] at hj
        have hk : arN s x * (7 * 2 ^ f - 7 + 1) ≤ 2 * (7 * 2 ^ f - 7 + 1) := Nat.mul_le_mul_right _ ha
        rw [bapp_size, bapp_size, bapp_size, show (⟨#[40]⟩ : ByteArray).size = 1 from rfl, show (⟨#[41]⟩ : ByteArray).size = 1 from rfl]
        omega
theorem tx_size {s : GSignature} (h : SigOK s) {t : List Int} (ht : t.length ≤ 24) (a : Nat) : (tx s t a).size ≤ 117440512 := by
  have h1 := txtF_size h (t.drop a).length (t.drop a)
  have h2 : 2 ^ (t.drop a).length ≤ 2 ^ 24 := Nat.pow_le_pow_right (by omega) (by simp; omega)
  unfold tx
  omega
theorem txs_size {s : GSignature} (h : SigOK s) {t : List Int} (ht : t.length ≤ 24) (a k : Nat) : (joinB (txs s t a k) ⟨#[44]⟩).size ≤ k * 117440513 := by
  have := joinB_size (txs s t a k) ⟨#[44]⟩ 117440512 (fun y hy => by
    obtain ⟨i, _, rfl⟩ := List.mem_map.1 hy
    exact tx_size h ht _)
  rwa [txs_len] at this
theorem txs_join (s : GSignature) (t : List Int) (a k : Nat) : joinB (txs s t a (k + 1)) ⟨#[44]⟩ = (if k = 0 then ⟨#[]⟩ else joinB (txs s t a k) ⟨#[44]⟩ ++ ⟨#[44]⟩) ++ tx s t (ep s t k (a + 1)).toNat := by
  rw [txs_succ, joinB_snoc]
  congr 1
  by_cases h : k = 0
  · subst h; rfl
  · rw [if_neg h, if_neg (fun e => h (by have := congrArg List.length e; rwa [txs_len] at this))]
theorem bempty (b : ByteArray) : b ++ (⟨#[]⟩ : ByteArray) = b := bext (by rw [bapp_list]; simp)
theorem ebempty (b : ByteArray) : (⟨#[]⟩ : ByteArray) ++ b = b := bext (by rw [bapp_list]; simp)
theorem bassoc (a b c : ByteArray) : a ++ b ++ c = a ++ (b ++ c) := bext (by simp only [bapp_list, List.append_assoc])
/-- The places of the arguments of the term at a place: the first k. -/
def argsP (s : GSignature) (t : List Int) (a k : Nat) : List Int := (List.range k).map fun i => ep s t i (a + 1)
theorem argsP_zero (s : GSignature) (t : List Int) (a : Nat) : argsP s t a 0 = [] := rfl
theorem argsP_succ (s : GSignature) (t : List Int) (a k : Nat) : argsP s t a (k + 1) = argsP s t a k ++ [ep s t k (a + 1)] := by
  unfold argsP; rw [List.range_succ, List.map_append]; rfl
theorem argsP_len (s : GSignature) (t : List Int) (a k : Nat) : (argsP s t a k).length = k := by simp [argsP]
theorem argsP_get {s : GSignature} {t : List Int} {a k i : Nat} (h : i < k) : (argsP s t a k)[i]? = some (ep s t i (a + 1)) := by
  unfold argsP; rw [List.getElem?_map, List.getElem?_range h]; rfl
/-- The arguments of a term that ends. -/
theorem arg_at {s : GSignature} {t : List Int} {a k i : Nat} (ha : a < t.length) (h : 0 ≤ ep s t k (a + 1)) (hi : i < k) :
    ∃ m, i ≤ m ∧ a + 1 + m < t.length ∧ ep s t i (a + 1) = (a + 1 + m : Nat) ∧ ep s t (i + 1) (a + 1) = ep s t 1 (a + 1 + m) ∧ 0 ≤ ep s t 1 (a + 1 + m) := by
  rcases ep_cases (s := s) (t := t) i (show a + 1 ≤ t.length by omega) with ⟨q1, _⟩ | ⟨m, q1, q2, q3, _⟩
  · rw [show k = i + (k - i) by omega, ep_add i _ (by omega), q1, if_pos (by omega)] at h
    omega
  have hst : ep s t (i + 1) (a + 1) = ep s t 1 (a + 1 + m) := by rw [ep_add i 1 (show a + 1 ≤ t.length by omega), q3, if_neg (by omega), Int.toNat_natCast]
  have hnn : 0 ≤ ep s t 1 (a + 1 + m) := by
    rw [← hst]
    rw [show k = (i + 1) + (k - (i + 1)) by omega, ep_add (i + 1) _ (by omega)] at h
    split at h <;> omega
  have hlt3 : a + 1 + m < t.length := by
    rcases Nat.lt_or_ge (a + 1 + m) t.length with h | h
    · exact h
    · rw [ep_out 0 h] at hnn; omega
  exact ⟨m, q1, hlt3, q3, hst, hnn⟩
/-! ### records' texts -/
def SEMI : ByteArray := ⟨#[59, 32]⟩
def okR (s : GSignature) (r : GRecord) : Prop := termG s r.term = 0 ∧ 0 ≤ r.value ∧ r.value ≤ 65535
def recG (s : GSignature) : List GRecord → Int
  | [] => 0
  | r :: l => if termG s r.term ≠ 0 then termG s r.term else if 0 ≤ r.value ∧ r.value ≤ 65535 then recG s l else 3
def recT (s : GSignature) (r : GRecord) : ByteArray := tx s r.term 0 ++ ⟨#[32]⟩ ++ itoaB r.value
def recsR (s : GSignature) (l : List GRecord) : GTextResult := if sigF s ≠ 0 then ⟨sigF s, ⟨#[]⟩⟩ else if 248 < l.length then ⟨2, ⟨#[]⟩⟩ else if recG s l ≠ 0 then ⟨recG s l, ⟨#[]⟩⟩ else ⟨0, joinB (l.map (recT s)) ⟨#[59, 32]⟩⟩
theorem recG_hit {s : GSignature} : ∀ {l : List GRecord} {i : Nat} {r : GRecord}, l[i]? = some r → (∀ j, j < i → ∀ x, l[j]? = some x → okR s x) → ¬ okR s r → recG s l = if termG s r.term ≠ 0 then termG s r.term else 3
  | [], _, _, h, _, _ => by cases h
  | x :: l, 0, r, h, _, hn => by
    cases h
    unfold recG
    split
    · rfl
    · rename_i h1
      rw [if_neg (fun h2 => hn ⟨by simpa using h1, h2⟩)]
  | x :: l, i + 1, r, h, ha, hn => by
    have h0 := ha 0 (by omega) x rfl
    unfold recG
    rw [if_neg (by simp [h0.1]), if_pos h0.2]
    exact recG_hit (l := l) (i := i) h (fun j hj y hy => ha (j + 1) (by omega) y hy) hn
theorem recG_all {s : GSignature} : ∀ {l : List GRecord}, (∀ x ∈ l, okR s x) → recG s l = 0
  | [], _ => rfl
  | x :: l, h => by
    have h0 := h x (by simp)
    unfold recG
    rw [if_neg (by simp [h0.1]), if_pos h0.2]
    exact recG_all fun y hy => h y (by simp [hy])
theorem recG_zero {s : GSignature} : ∀ {l : List GRecord}, recG s l = 0 → ∀ x ∈ l, okR s x
  | [], _, _, h => by cases h
  | y :: l, h, x, hx => by
    unfold recG at h
    split at h
    · rename_i h1; exact absurd h h1
    · rename_i h1
      split at h
      · rename_i h2
        rcases List.mem_cons.1 hx with rfl | hx
        · exact ⟨by simpa using h1, h2⟩
        · exact recG_zero h x hx
      · cases h
theorem recT_size {s : GSignature} (h : SigOK s) {r : GRecord} (hr : okR s r) : (recT s r).size ≤ 117440533 := by
  have h1 := tx_size h (term_ok hr.1).len.2 0
  have h2 := itoaB_size hr.2.1 (by have := hr.2.2; omega)
  unfold recT
  rw [bapp_size, bapp_size, show (⟨#[32]⟩ : ByteArray).size = 1 from rfl]
  omega
theorem recs_size {s : GSignature} (h : SigOK s) {l : List GRecord} (hl : ∀ x ∈ l, okR s x) : (joinB (l.map (recT s)) ⟨#[59, 32]⟩).size ≤ l.length * 117440535 := by
  have := joinB_size (l.map (recT s)) ⟨#[59, 32]⟩ 117440533 (fun y hy => by
    obtain ⟨x, hx, rfl⟩ := List.mem_map.1 hy
    exact recT_size h (hl x hx))
  rwa [List.length_map, show (⟨#[59, 32]⟩ : ByteArray).size = 2 from rfl] at this
theorem sm_recsR (s : GSignature) (l : List GRecord) : sm (recsR s l) = True := by
  refine eq_true ?_
  rw [sm_GTextResult]
  have h2 : sm (recsR s l).text := by
    unfold recsR
    split
    · exact Nat.zero_le _
    · split
      · exact Nat.zero_le _
      · split
        · exact Nat.zero_le _
        · rename_i h1 h2 h3
          have := recs_size (sig_ok (by simpa using h1)) (recG_zero (by simpa using h3))
          show (joinB _ _).size ≤ _
          omega
  simp only [h2, and_true]; try trivial
theorem term_place {s : GSignature} {t : List Int} (h : TermOK s t) : 0 ≤ ep s t 1 0 := by rw [h.ends]; omega
/-! ### equations and rules -/
theorem all_no {α : Type} {xs : List α} {p : α → Bool} {x : α} (hx : x ∈ xs) (h : p x = false) : xs.all p = false := by
  rw [List.all_eq_false]; exact ⟨x, hx, by simp [h]⟩
theorem all_yes {α : Type} {xs : List α} {p : α → Bool} (h : ∀ x ∈ xs, p x = true) : xs.all p = true := List.all_eq_true.2 h
def lowB (t : List Int) : Bool := t.all (fun n => decide (-6 ≤ n))
/-- Of a right signature: the fault of an equation. -/
def eqnG (s : GSignature) (e : GEquation) : Int := if termG s e.left ≠ 0 then termG s e.left else if termG s e.right ≠ 0 then termG s e.right else if lowB e.left = true ∧ lowB e.right = true then 0 else 3
/-- The first code that is not 0. -/
def firstF {α : Type} (f : α → Int) : List α → Int
  | [] => 0
  | x :: l => if f x ≠ 0 then f x else firstF f l
theorem firstF_hit {α : Type} {f : α → Int} : ∀ {l : List α} {i : Nat} {x : α}, l[i]? = some x → (∀ j, j < i → ∀ y, l[j]? = some y → f y = 0) → f x ≠ 0 → firstF f l = f x
  | [], _, _, h, _, _ => by cases h
  | y :: l, 0, x, h, _, hn => by cases h; exact if_pos hn
  | y :: l, i + 1, x, h, ha, hn => by
    show (if f y ≠ 0 then f y else firstF f l) = f x
    rw [if_neg (by simp [ha 0 (by omega) y rfl])]
    exact firstF_hit (l := l) (i := i) h (fun j hj z hz => ha (j + 1) (by omega) z hz) hn
theorem firstF_all {α : Type} {f : α → Int} : ∀ {l : List α}, (∀ x ∈ l, f x = 0) → firstF f l = 0
  | [], _ => rfl
  | y :: l, h => by
    show (if f y ≠ 0 then f y else firstF f l) = 0
    rw [if_neg (by simp [h y (by simp)])]
    exact firstF_all fun z hz => h z (by simp [hz])
theorem firstF_zero {α : Type} {f : α → Int} : ∀ {l : List α}, firstF f l = 0 → ∀ x ∈ l, f x = 0
  | [], _, _, h => by cases h
  | y :: l, h, x, hx => by
    have h : (if f y ≠ 0 then f y else firstF f l) = 0 := h
    split at h
    · rename_i h1; exact absurd h h1
    · rename_i h1
      rcases List.mem_cons.1 hx with rfl | hx
      · simpa using h1
      · exact firstF_zero h x hx
/-- Of a right signature: the fault of a list of equations. -/
def eqsG (s : GSignature) (l : List GEquation) : Int := if 12 < l.length then 2 else firstF (eqnG s) l
theorem headD_get {l : List Int} (h : 1 ≤ l.length) : l.headD 0 = l[0] := by
  cases l with
  | nil => simp at h
  | cons a b => rfl
/-- Of a valid equation: whether it is a rule. -/
def varOK (e : GEquation) (n : Int) : Bool := decide (0 ≤ n ∨ e.left.count n ≠ 0)
def ruleOK (e : GEquation) : Bool := decide (0 ≤ e.left.headD 0) && e.right.all (varOK e)
/-- Of a right signature: the fault of a list of rules. -/
def rulesG (s : GSignature) (l : List GEquation) : Int := if eqsG s l ≠ 0 then eqsG s l else if l.all ruleOK = true then 0 else 1
theorem eqsG_zero {s : GSignature} {l : List GEquation} (h : eqsG s l = 0) : l.length ≤ 12 ∧ ∀ e ∈ l, eqnG s e = 0 := by
  unfold eqsG at h
  split at h
  · cases h
  · exact ⟨by omega, firstF_zero h⟩
theorem eqnG_zero {s : GSignature} {e : GEquation} (h : eqnG s e = 0) : TermOK s e.left ∧ TermOK s e.right ∧ lowB e.left = true ∧ lowB e.right = true := by
  unfold eqnG at h
  split at h
  · rename_i h1; exact absurd h h1
  · rename_i h1
    split at h
    · rename_i h2; exact absurd h h2
    · rename_i h2
      split at h
      · rename_i h3; exact ⟨term_ok (by simpa using h1), term_ok (by simpa using h2), h3⟩
      · cases h
/-- The term that begins at a place. -/
def subT (s : GSignature) (t : List Int) (a : Nat) : List Int := (t.drop a).take ((ep s t 1 a).toNat - a)
end Go.SC
