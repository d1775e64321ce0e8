/- Own lists that are marked. -/
import Derived.Test.YthhcemhignihlaaDoorSc11
set_option linter.unusedSimpArgs false
set_option linter.unusedVariables false
namespace Go.SC
open Go

/-- A function that changes own memory in place: what it yields, the memory behind it. -/
theorem fn_set {P : Program} (hP : POk P) (E : Env P) (PL : List (Nat × List Nat × List Stp × JT)) {f : FuncId} {fn : Func} {c : Code} {args : List Value} {H H2 : AH} {Bd : Nat} {K : Value → AH → Nat → Prop} (r0 : Value) (hK : K r0 H2 Bd) (hH2 : HB H Bd → HB H2 Bd)
    (hf : P.funcs[f]? = some fn) (hb : fn.body = some c) {rs : List ResultVar} (hrs : fn.results.toList = rs) {m : Nat} (hm : fn.ntmps = m) (hm2 : args.length ≤ m) (hent : Enters P f) (hp : plansOK PL c = true) (hnb : (∀ v ∈ args, NB Bd v) → HB H Bd → NB Bd r0)
    (h : HB H Bd → (∀ v ∈ args, NB Bd v) → vq E PL Bd c (pureQ P rs H2 r0) (aS m undef (idx 0 args)) H Bd) : SCalls P f args H Bd K := by
  subst hm
  rw [← start_aS args _ hm2] at h
  refine scalls_of_tr hf hb hrs hent fun hh ha => (vq_sound hP PL c _ _ H Bd hp (h hh ha)).conv fun e s' H' Bd' hle hq => ?_
  have key : PureQ P rs H2 r0 s' H' Bd' → RetQ P rs H Bd K s' H' Bd' := fun ⟨vs, h1, h2, h3⟩ =>
    ⟨vs, h1, r0, _, H2, Bd, h3, fun n b hn (hx : H2 n = none) => (by rw [hx] at hn; cases hn), h2, Nat.le_refl _, .inr ⟨hnb ha hh, hH2 hh, hK⟩⟩
  cases e with
  | normal => exact key hq
  | ret => exact key hq
  | _ => exact hq.elim

/-! ### marks -/
def mtD : Nat → Nat → ByteArray → ByteArray
  | 0, _, out => out
  | f + 1, k, out => if k = 0 then out else mtD f (k / 10) (oneB ((48 + (k : Int) % 10) % 256) ++ out)
def mtext (k : Int) : ByteArray := if k ≤ 0 then ⟨#[109, 48]⟩ else ⟨#[109]⟩ ++ mtD 64 k.toNat ⟨#[]⟩
class Mk (α : Type) (w : outParam Nat) where
  at_ : Int → α
instance : Mk Int 1 := ⟨fun q => q⟩
instance : Mk ByteArray 1 := ⟨mtext⟩
instance : Mk UInt8 1 := ⟨fun q => UInt8.ofNat (q % 256).toNat⟩
instance : Mk GSymbol 2 := ⟨fun q => ⟨mtext q, q + 1⟩⟩
section
variable {α : Type} {w : Nat} [Mk α w]
def mkL (α : Type) {w : Nat} [Mk α w] (q : Int) (n : Nat) : List α := (List.range n).map fun i => Mk.at_ (q + (i * w : Nat))
theorem mkL_zero (q : Int) : mkL α q 0 = [] := rfl
theorem mkL_succ (q : Int) (n : Nat) : mkL α q (n + 1) = mkL α q n ++ [Mk.at_ (q + (n * w : Nat))] := by simp [mkL, List.range_succ]
@[go_sem] theorem mkL_len (q : Int) (n : Nat) : (mkL α q n).length = n := by simp [mkL]
theorem mkL_get (q : Int) {n i : Nat} (h : i < n) : (mkL α q n)[i]? = some (Mk.at_ (q + (i * w : Nat))) := by
  simp [mkL, h]
variable [Enc α]
/-- An own block, marked up to element i. -/
def mkC (α : Type) [Enc α] {w : Nat} [Mk α w] (q : Int) (i : Nat) (cells : List Value) : List Value := flat (mkL α q i) ++ cells.drop (i * Enc.k α)
theorem mkC_zero (q : Int) (cells : List Value) : mkC α q 0 cells = cells := by simp [mkC, mkL_zero, flat]
@[go_sem] theorem mkC_len (q : Int) (i : Nat) (cells : List Value) (h : i * Enc.k α ≤ cells.length) : (mkC α q i cells).length = cells.length := by
  simp only [mkC, List.length_append, flat_len, mkL_len, List.length_drop]; omega
theorem mkC_end {n : Nat} (q : Int) (cells : List Value) (h : cells.length = n * Enc.k α) : mkC α q n cells = flat (mkL α q n) := by
  simp [mkC, h]
theorem mkC_lset {n i : Nat} (q : Int) (cells : List Value) (h : cells.length = n * Enc.k α) (hi : i < n) : lset (mkC α q i cells) (i * Enc.k α) (enc (Mk.at_ (q + (i * w : Nat)) : α)) = mkC α q (i + 1) cells := by
  have h1 : i * Enc.k α + Enc.k α ≤ n * Enc.k α := by rw [← Nat.succ_mul]; exact Nat.mul_le_mul_right _ hi
  have h0 : (mkC α q i cells).length = cells.length := mkC_len q i cells (by omega)
  refine List.ext_getElem? fun j => ?_
  rw [lset_get _ _ _ _ (by rw [h0, enc_len]; omega), enc_len]
  have hf : (flat (mkL α q i)).length = i * Enc.k α := by rw [flat_len, mkL_len]
  have hf2 : flat (mkL α q (i + 1)) = flat (mkL α q i) ++ enc (Mk.at_ (q + (i * w : Nat)) : α) := by rw [mkL_succ, flat_append, flat_one]
  unfold mkC
  rw [hf2]
  split
  · rw [List.getElem?_append_left (by omega), List.append_assoc, List.getElem?_append_left (by omega)]
  · split
    · rw [List.append_assoc, List.getElem?_append_right (by omega), hf, List.getElem?_append_left (by rw [enc_len]; omega)]
    · rw [List.getElem?_append_right (by omega), hf, List.getElem?_append_right (by rw [List.length_append, hf, enc_len]; omega), List.length_append, hf, enc_len, List.getElem?_drop, List.getElem?_drop]
      congr 1
      rw [Nat.succ_mul]; omega
end
theorem mkC_set1 {α : Type} [Enc α] {w : Nat} [Mk α w] [hk : EncK α 1] {n i : Nat} {v : Value} (q : Int) (cells : List Value) (h : cells.length = n * 1) (hi : i < n) (he : enc (Mk.at_ (q + (i * w : Nat)) : α) = [v]) : (mkC α q i cells).set i v = mkC α q (i + 1) cells := by
  have := mkC_lset (α := α) (n := n) (i := i) q cells (by rw [hk.h]; exact h) hi
  rw [hk.h, Nat.mul_one, he] at this
  exact this
theorem mkC_set2 {α : Type} [Enc α] {w : Nat} [Mk α w] [hk : EncK α 2] {n i : Nat} {v u : Value} (q : Int) (cells : List Value) (h : cells.length = n * 2) (hi : i < n) (he : enc (Mk.at_ (q + (i * w : Nat)) : α) = [v, u]) : ((mkC α q i cells).set (i * 2) v).set (i * 2 + 1) u = mkC α q (i + 1) cells := by
  have := mkC_lset (α := α) (n := n) (i := i) q cells (by rw [hk.h]; exact h) hi
  rw [hk.h, he] at this
  exact this
theorem hb_setF {H : AH} {Bd n : Nat} {b : Blk} {α : Type} [Enc α] (hh : HB H Bd) (hb : H n = some b) (xs : List α) : HB (upd H n (some ⟨flat xs, true⟩)) Bd := by
  have hn : n < Bd := by
    rcases Nat.lt_or_ge n Bd with h | h
    · exact h
    · rw [hh.fresh n h] at hb; cases hb
  refine ⟨fun m hm => ?_, fun m c hm v hv => ?_⟩
  · rw [upd_other _ _ (by omega)]; exact hh.fresh m hm
  · by_cases e : m = n
    · subst e; rw [upd_same] at hm; cases hm; exact flat_nb Bd xs v hv
    · rw [upd_other _ _ e] at hm; exact hh.nb m c hm v hv
theorem le_own {H : AH} {n : Nat} {cells : List Value} (hb : H n = some ⟨cells, true⟩) : Le (upd H n (some ⟨cells, true⟩)) H := fun m b hm => by
  by_cases e : m = n
  · subst e; rw [upd_same] at hm; rw [hb]; exact hm
  · rw [upd_other _ _ e] at hm; exact hm
theorem hb_in {H : AH} {n B : Nat} {b : Blk} (h : HB H B) (hb : H n = some b) : n < B := by
  rcases Nat.lt_or_ge n B with h1 | h1
  · exact h1
  · rw [h.fresh n h1] at hb; cases hb
theorem Le_mark {H H' : AH} {n : Nat} {b : Option Blk} (h : Le H H') : Le (upd H n b) (upd H' n b) := fun m c hm => by
  by_cases e : m = n
  · subst e; rw [upd_same] at hm ⊢; exact hm
  · rw [upd_other _ _ e] at hm ⊢; exact h m c hm
class EncVC (α : Type) [Enc α] : Prop where
  h : ∀ (x : α) v, v ∈ enc x → VC v
instance : EncVC Int := ⟨fun x v h => by have : v = .int .i64 x := List.mem_singleton.1 h; subst this; exact .int _ _⟩
instance : EncVC UInt8 := ⟨fun x v h => by have : v = .int .u8 (x.toNat : Int) := List.mem_singleton.1 h; subst this; exact .int _ _⟩
instance : EncVC Bool := ⟨fun x v h => by have : v = .bool x := List.mem_singleton.1 h; subst this; exact .bool _⟩
instance : EncVC ByteArray := ⟨fun x v h => by have : v = .string x := List.mem_singleton.1 h; subst this; exact .string _⟩
instance : EncVC GSymbol := ⟨fun x v h => by
  have : v ∈ [Value.string x.name, Value.int .i64 x.arity] := h
  simp only [List.mem_cons, List.not_mem_nil, or_false] at this
  rcases this with rfl | rfl
  · exact .string _
  · exact .int _ _⟩
theorem vc_flat {α : Type} [Enc α] [h : EncVC α] (xs : List α) : ∀ v ∈ flat xs, VC v := flat_vc h.h xs
theorem vc_agg {l : List Value} (h : ∀ v ∈ l, VC v) : VC (.agg l.toArray) := .agg fun i v hi => h v (List.mem_of_getElem? (by simpa using hi))
theorem vc_cells {L : List (List Value)} (h : ∀ c ∈ L, ∀ v ∈ c, VC v) : ∀ c ∈ L, ∀ v ∈ c, VC v := h
end Go.SC
namespace Go.SC
open Go
def wordsB (s : ByteArray) : List ByteArray := (cutB s 32).filter fun x => !(x.size == 0)
@[go_sem] theorem nm_nil (n : Nat) : (¬ n ∈ ([] : List Nat)) = True := by simp
@[go_sem] theorem nm_cons (n m : Nat) (l : List Nat) : (¬ n ∈ (m :: l)) = (n ≠ m ∧ ¬ n ∈ l) := by simp
@[go_sem] theorem blk_eq (a b : List Value) : ((⟨a, true⟩ : Blk) = ⟨b, true⟩) = (a = b) := by simp
def wordsR (s : ByteArray) : GWordsResult := if s.size > 1500 then ⟨2, []⟩ else ⟨0, wordsB s⟩
theorem wordsR_big {s : ByteArray} (h : s.size > 1500) : wordsR s = ⟨2, []⟩ := if_pos h
theorem wordsR_small {s : ByteArray} (h : ¬ s.size > 1500) : wordsR s = ⟨0, wordsB s⟩ := if_neg h
theorem cutS_hit {s : ByteArray} {c : UInt8} {i : Nat} (h : s.data.toList[i]? = some c ∨ i = s.size) : cutS s c (i + 1) = ((cutS s c i).1 ++ [s.extract (cutS s c i).2 i], i + 1) := by rw [cutS, if_pos h]
theorem cutS_miss {s : ByteArray} {c : UInt8} {i : Nat} (h : ¬ (s.data.toList[i]? = some c ∨ i = s.size)) : cutS s c (i + 1) = cutS s c i := by rw [cutS, if_neg h]
theorem u8_inj (a b : UInt8) : ((a.toNat : Int) = (b.toNat : Int)) = (a = b) := propext ⟨fun h => UInt8.toNat_inj.1 (by omega), fun h => by rw [h]⟩
theorem filt_hit {α : Type} {p : α → Bool} {l : List α} {i : Nat} (h : i < l.length) (hp : p l[i] = true) : (l.take (i + 1)).filter p = (l.take i).filter p ++ [l[i]] := by
  rw [List.take_succ_eq_append_getElem h, List.filter_append]; simp [hp]
theorem filt_miss {α : Type} {p : α → Bool} {l : List α} {i : Nat} (h : i < l.length) (hp : p l[i] = false) : (l.take (i + 1)).filter p = (l.take i).filter p := by
  rw [List.take_succ_eq_append_getElem h, List.filter_append]; simp [hp]
theorem filt_len {α : Type} (p : α → Bool) (l : List α) (i : Nat) : ((l.take i).filter p).length ≤ i := Nat.le_trans (List.length_filter_le _ _) (by simp; omega)
@[go_sem high] theorem giveR_mk {α : Type} [Enc α] {w k n : Nat} [Mk α w] [hk : EncK α k] (q : Int) (v : Value) : giveR (some ⟨flat (mkL α q n), true⟩) k n v = lst (mkL α q n) := giveR_flat _ hk.h (mkL_len q n).symm v
theorem cutS_mem (s : ByteArray) (c : UInt8) : ∀ i, i ≤ s.size + 1 → ∀ p ∈ (cutS s c i).1, p.size ≤ s.size
  | 0, _, p, h => by simp [cutS] at h
  | i + 1, hi, p, h => by
    have ih := cutS_mem s c i (by omega)
    unfold cutS at h
    split at h
    · rcases List.mem_append.1 h with h | h
      · exact ih p h
      · rw [List.mem_singleton.1 h, ByteArray.size_extract]; omega
    · exact ih p h
theorem wordsB_sm {s : ByteArray} (h : s.size ≤ 1048576) : sm (wordsB s) ∧ (wordsB s).length ≤ 1048577 := by
  have hl : (wordsB s).length ≤ (cutB s 32).length := List.length_filter_le _ _
  have h2 := cutB_len_le s 32
  refine ⟨⟨by omega, fun x hx => ?_⟩, by omega⟩
  have := cutS_mem s 32 (s.size + 1) (Nat.le_refl _) x (List.mem_filter.1 hx).1
  show x.size ≤ _
  omega
theorem wordsR_sm {s : ByteArray} (h : s.size ≤ 1048576) : sm (wordsR s) ∧ (wordsR s).words.length ≤ 1048577 := by
  unfold wordsR
  split
  · exact ⟨⟨trivial, by simp, by simp⟩, by simp⟩
  · exact ⟨⟨trivial, (wordsB_sm h).1⟩, (wordsB_sm h).2⟩
theorem mtD_size : ∀ (f k : Nat) (out : ByteArray), (mtD f k out).size ≤ f + out.size
  | 0, k, out => by simp [mtD]
  | f + 1, k, out => by
    unfold mtD
    split
    · omega
    · have := mtD_size f (k / 10) (oneB ((48 + (k : Int) % 10) % 256) ++ out)
      rw [ByteArray.size_append, oneB_size] at this
      omega
theorem mtext_size (k : Int) : (mtext k).size ≤ 65 := by
  unfold mtext
  split
  · decide
  · rw [ByteArray.size_append]
    have := mtD_size 64 k.toNat ⟨#[]⟩
    have e1 : (⟨#[109]⟩ : ByteArray).size = 1 := rfl
    have e2 : (⟨#[]⟩ : ByteArray).size = 0 := rfl
    omega
class MkSm (α : Type) {w : Nat} [Mk α w] [Sz α] : Prop where
  h : ∀ q : Int, sm (Mk.at_ q : α)
instance : MkSm Int := ⟨fun _ => trivial⟩
instance : MkSm UInt8 := ⟨fun _ => trivial⟩
instance : MkSm ByteArray := ⟨fun q => by have := mtext_size q; show (mtext q).size ≤ _; omega⟩
instance : MkSm GSymbol := ⟨fun q => ⟨by have := mtext_size q; show (mtext q).size ≤ _; omega, trivial⟩⟩
theorem mkL_sm {α : Type} {w : Nat} [Mk α w] [Sz α] [h : MkSm α] (q : Int) {n : Nat} (hn : n ≤ 281474976710656) : sm (mkL α q n) := ⟨by rw [mkL_len]; exact hn, fun x hx => by
  obtain ⟨i, _, rfl⟩ := List.mem_map.1 hx
  exact h.h _⟩
end Go.SC
