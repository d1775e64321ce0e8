/- Data as values; loops that count. -/
import Derived.Test.YthhcemhignihlaaDoorScN
set_option linter.unusedSimpArgs false
set_option linter.unusedVariables false
namespace Go.SC
open Go

/-- Data of a type, as cells. -/
class Enc (α : Type) where
  k : Nat
  e : α → List Value
  len : ∀ x, (e x).length = k
  pos : 0 < k
  nb : ∀ x Bd v, v ∈ e x → NB Bd v
  ok : ∀ x, (e x).all cellOK = true
  inj : ∀ x y, e x = e y → x = y
def enc {α : Type} [Enc α] (x : α) : List Value := Enc.e x
theorem enc_len {α : Type} [Enc α] (x : α) : (enc x).length = Enc.k α := Enc.len x
theorem enc_nb {α : Type} [Enc α] (x : α) (Bd : Nat) (v : Value) (h : v ∈ enc x) : NB Bd v := Enc.nb x Bd v h
theorem enc_inj {α : Type} [Enc α] {x y : α} (h : enc x = enc y) : x = y := Enc.inj x y h
theorem enc_ok {α : Type} [Enc α] (x : α) : (enc x).all cellOK = true := Enc.ok x

section
variable {α β : Type} [Enc α] [Enc β]
/-- A list as a value; a list's cells. -/
def lst (xs : List α) : Value := LST (Enc.k α) (xs.map enc)
def flat (xs : List α) : List Value := xs.flatMap enc
theorem lst_nb (Bd : Nat) (xs : List α) : NB Bd (lst xs) := by
  refine .lst fun i j r v h1 h2 => ?_
  simp only [List.getElem?_toArray, List.getElem?_map] at h1
  cases hx : xs[i]? with
  | none => rw [hx] at h1; cases h1
  | some x =>
    rw [hx] at h1
    simp only [Option.map_some, Option.some.injEq, Value.agg.injEq] at h1
    subst h1
    exact enc_nb x Bd v (List.mem_of_getElem? (by simpa using h2))
end

theorem lst_inj {α : Type} [Enc α] {xs ys : List α} : lst xs = lst ys ↔ xs = ys := by
  refine ⟨fun h => ?_, fun h => by rw [h]⟩
  unfold lst LST at h
  simp only [Value.func.injEq, true_and, List.map_map] at h
  have h2 : xs.map (fun x => Value.agg (enc x).toArray) = ys.map (fun x => Value.agg (enc x).toArray) := List.toArray_inj h
  clear h
  induction xs generalizing ys with
  | nil => cases ys with
    | nil => rfl
    | cons => simp at h2
  | cons x xs ih => cases ys with
    | nil => simp at h2
    | cons y ys =>
      simp only [List.map_cons, List.cons.injEq, Value.agg.injEq] at h2
      rw [enc_inj (List.toArray_inj h2.1), ih h2.2]

instance : Enc Int := ⟨1, fun n => [.int .i64 n], fun _ => rfl, by decide, fun x Bd v h => by simp at h; subst h; exact .int _ _, fun _ => rfl, fun x y h => by simpa using h⟩
instance : Enc UInt8 := ⟨1, fun n => [.int .u8 (n.toNat : Int)], fun _ => rfl, by decide, fun x Bd v h => by simp at h; subst h; exact .int _ _, fun _ => rfl, fun x y h => UInt8.toNat_inj.1 (by simp only [List.cons.injEq, Value.int.injEq, true_and, and_true] at h; omega)⟩
instance : Enc Bool := ⟨1, fun n => [.bool n], fun _ => rfl, by decide, fun x Bd v h => by simp at h; subst h; exact .bool _, fun _ => rfl, fun x y h => by simpa using h⟩
instance : Enc ByteArray := ⟨1, fun n => [.string n], fun _ => rfl, by decide, fun x Bd v h => by simp at h; subst h; exact .string _, fun _ => rfl, fun x y h => by simpa using h⟩
section
variable {α β : Type} [Enc α] [Enc β]
instance : Enc (List α) := ⟨1, fun xs => [lst xs], fun _ => rfl, by decide, fun x Bd v h => by simp at h; subst h; exact lst_nb _ _, fun _ => rfl, fun x y h => lst_inj.1 (by simpa using h)⟩
instance : Enc (α × β) := ⟨Enc.k α + Enc.k β, fun x => enc x.1 ++ enc x.2, fun x => by simp [enc_len], by have := Enc.pos (α := α); omega,
  fun x Bd v h => by
    rcases List.mem_append.1 h with h | h
    · exact enc_nb _ _ _ h
    · exact enc_nb _ _ _ h, fun x => by simp [List.all_append, enc_ok], fun x y h => by
    have h1 := List.append_inj h (by rw [enc_len, enc_len])
    exact Prod.ext (enc_inj h1.1) (enc_inj h1.2)⟩
/-- Data that is read as other data. -/
@[reducible] def Enc.of {α β : Type} [Enc β] (f : α → β) (hf : ∀ x y, f x = f y → x = y) : Enc α := ⟨Enc.k β, fun x => enc (f x), fun x => enc_len _, Enc.pos, fun x => enc_nb _, fun x => enc_ok _, fun x y h => hf x y (enc_inj h)⟩
@[push_cast] theorem k_int : Enc.k Int = 1 := (rfl)
@[push_cast] theorem k_byte : Enc.k UInt8 = 1 := (rfl)
@[push_cast] theorem k_bool : Enc.k Bool = 1 := (rfl)
@[push_cast] theorem k_str : Enc.k ByteArray = 1 := (rfl)
@[push_cast] theorem k_list : Enc.k (List α) = 1 := (rfl)
@[push_cast] theorem k_pair : Enc.k (α × β) = Enc.k α + Enc.k β := (rfl)
@[push_cast] theorem enc_int (n : Int) : enc n = [.int .i64 n] := (rfl)
@[push_cast] theorem enc_byte (n : UInt8) : enc n = [.int .u8 (n.toNat : Int)] := (rfl)
@[push_cast] theorem enc_bool (n : Bool) : enc n = [.bool n] := (rfl)
@[push_cast] theorem enc_str (n : ByteArray) : enc n = [.string n] := (rfl)
@[push_cast] theorem enc_list (xs : List α) : enc xs = [lst xs] := (rfl)
@[push_cast] theorem enc_pair (x : α × β) : enc x = enc x.1 ++ enc x.2 := (rfl)

@[push_cast] theorem cellsL_L (xs : List α) : cellsL (lst xs) = [lst xs] := (rfl)
@[push_cast] theorem isUnk_L (xs : List α) : isUnk (lst xs) = false := (rfl)
@[push_cast] theorem cellOK_L (xs : List α) : cellOK (lst xs) = true := (rfl)

theorem flat_nil : flat ([] : List α) = [] := rfl
theorem flat_cons (x : α) (xs : List α) : flat (x :: xs) = enc x ++ flat xs := by simp [flat]
theorem flat_append (xs ys : List α) : flat (xs ++ ys) = flat xs ++ flat ys := by simp [flat]
theorem flat_one (x : α) : flat [x] = enc x := by simp [flat]
@[push_cast] theorem flat_len (xs : List α) : (flat xs).length = xs.length * Enc.k α := by
  induction xs with
  | nil => simp [flat]
  | cons x xs ih => rw [flat_cons, List.length_append, ih, enc_len, List.length_cons, Nat.succ_mul]; omega
theorem flat_ok (xs : List α) : (flat xs).all cellOK = true := by
  induction xs with
  | nil => rfl
  | cons x xs ih => rw [flat_cons, List.all_append, ih, enc_ok]; rfl
theorem flat_take (xs : List α) (n : Nat) : (flat xs).take (n * Enc.k α) = flat (xs.take n) := by
  induction xs generalizing n with
  | nil => simp [flat]
  | cons x xs ih =>
    cases n with
    | zero => simp [flat]
    | succ n =>
      rw [flat_cons, List.take_succ_cons, flat_cons, Nat.succ_mul, List.take_append, List.take_of_length_le (by rw [enc_len]; omega), enc_len, Nat.add_sub_cancel, ih]
theorem flat_drop (xs : List α) (n : Nat) : (flat xs).drop (n * Enc.k α) = flat (xs.drop n) := by
  induction xs generalizing n with
  | nil => simp [flat]
  | cons x xs ih =>
    cases n with
    | zero => simp [flat]
    | succ n =>
      rw [flat_cons, List.drop_succ_cons, Nat.succ_mul, List.drop_append, List.drop_eq_nil_of_le (by rw [enc_len]; omega), enc_len, Nat.add_sub_cancel, ih, List.nil_append]
theorem flat_all (xs : List α) : (flat xs).take (xs.length * Enc.k α) = flat xs := by rw [flat_take, List.take_length]
theorem flat_get (xs : List α) (i : Nat) (x : α) (h : xs[i]? = some x) : ((flat xs).drop (i * Enc.k α)).take (Enc.k α) = enc x := by
  have hi := (List.getElem?_eq_some_iff.1 h).1
  rw [flat_drop, List.drop_eq_getElem_cons hi, flat_cons, (List.getElem?_eq_some_iff.1 h).2, List.take_append_of_le_length (by rw [enc_len]; exact Nat.le_refl _), List.take_of_length_le (by rw [enc_len]; exact Nat.le_refl _)]
theorem acellsOf_lst (H : AH) (xs : List α) : acellsOf H (Enc.k α) (lst xs) = some (xs.length, flat xs) := by
  simp only [acellsOf, lst, LST, if_true]
  congr 2
  · simp
  · induction xs with
    | nil => rfl
    | cons x xs ih => simp only [List.map_cons, List.flatMap_cons, flat_cons, ih]; rfl

end

/-! ### what the types say, by instances -/
class TyZ (P : Program) (t : TypeId) (k : outParam Nat) (a : outParam Bool) (z : outParam Value) : Prop where
  hk : ask P (sizeOf t) = some k
  ha : ask P (isAgg t) = some a
  hz : ask P (zeroValue t) = some z
class TySl (P : Program) (t : TypeId) (e k : outParam Nat) (z : outParam (List Value)) : Prop where
  u : P.underlying t = some (.slice e)
  hk : ask P (sizeOf e) = some k
  hz : ∃ z0, ask P (zeroValue e) = some z0 ∧ cellsL z0 = z
  zk : z.length = k
  zp : z.all plainV = true
  lt : e < P.types.size
class TyI (P : Program) (t : TypeId) (k : outParam IntKind) : Prop where
  u : P.underlying t = some (.int k)
class TyS (P : Program) (t : TypeId) : Prop where
  u : P.underlying t = some .string
class TyB (P : Program) (t : TypeId) : Prop where
  u : P.underlying t = some .bool
class TyP (P : Program) (t : TypeId) (e : outParam Nat) : Prop where
  u : P.underlying t = some (.pointer e)
class TyBy (P : Program) (t : TypeId) : Prop where
  u : ∃ e, P.underlying t = some (.slice e) ∧ P.underlying e = some (.int .u8)
class TyF (P : Program) (t f : Nat) (o k : outParam Nat) (a : outParam Bool) : Prop where
  fs : ∃ (fs : Array Field) (u : TypeId), ask P (underlying t) = some (.struct fs) ∧ (fs[f]?).map (fun x => (x.type, x.offset)) = some (u, o) ∧ ask P (sizeOf u) = some k ∧ ask P (isAgg u) = some a
  h0 : k ≠ 0
class TyBd (P : Program) (t : TypeId) (ps : outParam (List (Nat × Nat))) (z : outParam (List Value)) : Prop where
  h : ∀ parts, abuild P t parts = (lfill (ps[·]?) z parts).map fun l => .agg l.toArray

/-- How many cells data of a type has. -/
class EncK (α : Type) [Enc α] (k : outParam Nat) : Prop where
  h : Enc.k α = k
instance : EncK Int 1 := ⟨rfl⟩
instance : EncK UInt8 1 := ⟨rfl⟩
instance : EncK Bool 1 := ⟨rfl⟩
instance : EncK ByteArray 1 := ⟨rfl⟩
instance {α : Type} [Enc α] : EncK (List α) 1 := ⟨rfl⟩

section
variable {P : Program}
theorem TySl.h {t e k : Nat} {z : List Value} (h : TySl P t e k z) : ask P (underlying t) = some (.slice e) := askU h.u
@[push_cast] theorem sizeOf_T {t k : Nat} {a : Bool} {z : Value} [h : TyZ P t k a z] : ask P (sizeOf t) = some k := h.hk
@[push_cast] theorem isAgg_T {t k : Nat} {a : Bool} {z : Value} [h : TyZ P t k a z] : ask P (isAgg t) = some a := h.ha
@[push_cast] theorem zero_T {t k : Nat} {a : Bool} {z : Value} [h : TyZ P t k a z] : ask P (zeroValue t) = some z := h.hz
@[push_cast] theorem aload_c {t k : Nat} {z : Value} [h : TyZ P t k false z] (b : Blk) (off : Nat) : aload P t b off = b.cells[off]? := aload_cell h.ha b off
@[push_cast] theorem aload_a {t k : Nat} {z : Value} [h : TyZ P t k true z] (b : Blk) (off : Nat) : aload P t b off = if 0 < k ∧ off + k ≤ b.cells.length then some (.agg ((b.cells.drop off).take k).toArray) else none := aload_agg h.ha h.hk b off
@[push_cast] theorem alen_sl {t e k : Nat} {z : List Value} [h : TySl P t e k z] (A : Option Addr) (n c : Nat) : alen P t (.slice A n c) = some (.int .i64 n) := alen_slice h.h A n c
@[push_cast] theorem alen_str {t : Nat} [h : TyS P t] (b : ByteArray) : alen P t (.string b) = some (.int .i64 b.size) := alen_string (askU h.u) b
@[push_cast] theorem undFits_sl {t e k : Nat} {z : List Value} [h : TySl P t e k z] (A : Option Addr) (n c : Nat) : undFits P t (.slice A n c) = true := undFits_slice h.u A n c
@[push_cast] theorem undFits_pt {t e : Nat} [h : TyP P t e] (a : Option Addr) : undFits P t (.pointer a) = true := undFits_ptr h.u a
@[push_cast] theorem undBool_T {t : Nat} [h : TyB P t] : undBool P t = true := undBool_eq h.u
@[push_cast] theorem undString_T {t : Nat} [h : TyS P t] : undString P t = true := undString_eq h.u
@[push_cast] theorem undInt_T {t : Nat} {k : IntKind} [h : TyI P t k] : undInt P t = true := undInt_eq h.u
@[push_cast] theorem undBytes_T {t : Nat} [h : TyBy P t] : undBytes P t = true := by obtain ⟨e, h1, h2⟩ := h.u; exact undBytes_eq h1 h2
@[push_cast] theorem sizedS_T {t e k : Nat} {z : List Value} [h : TySl P t e k z] : sizedS P t = true := sizedS_eq h.u h.hk
@[push_cast] theorem aidxAddr_sl {t e k : Nat} {z : List Value} [h : TySl P t e k z] (n off len c : Nat) (q : IntKind) (i : Int) :
    aidxAddr P t (.slice (some ⟨n, off, some k⟩) len c) (.int q i) = if 0 ≤ i ∧ i < len then some (.pointer (some ⟨n, off + i.toNat * k, none⟩)) else none := aidxAddr_slice h.h h.hk n off len c q i
@[push_cast] theorem aidx_str {t : Nat} [h : TyS P t] (b : ByteArray) (q : IntKind) (i : Int) : aidx P t (.string b) (.int q i) = if 0 ≤ i ∧ i < b.size then some (.int .u8 (byteAt b i.toNat)) else none := aidx_string (askU h.u) b q i
@[push_cast] theorem abuildSlice_T {t e k : Nat} {z : List Value} [h : TySl P t e k z] (len : Nat) (parts : List (Nat × Value)) :
    abuildSlice P t len parts = if len * k ≤ 16777216 ∧ parts.length = len then (adense k 0 parts).map fun L => (k, L) else none := by obtain ⟨z0, h1, _⟩ := h.hz; exact abuildSlice_eq h.h h.hk h1 len parts
@[push_cast] theorem afldAddr_ptr {t f o k : Nat} {a : Bool} [h : TyF P t f o k a] (n off : Nat) : afldAddr P t (.pointer (some ⟨n, off, none⟩)) f = some (.pointer (some ⟨n, off + o, none⟩)) := by
  obtain ⟨fs, u, h1, h2, h3, _⟩ := h.fs; exact afldAddr_at h1 h2 h3 h.h0 n off
@[push_cast] theorem afld_c {t f o k : Nat} [h : TyF P t f o k false] (l : List Value) : afld P t (.agg l.toArray) f = l[o]? := by
  obtain ⟨fs, u, h1, h2, _, h4⟩ := h.fs; exact afld_cell h1 h2 h4 l
@[push_cast] theorem afld_a {t f o k : Nat} [h : TyF P t f o k true] (l : List Value) : afld P t (.agg l.toArray) f = some (.agg ((l.drop o).take k).toArray) := by
  obtain ⟨fs, u, h1, h2, h3, h4⟩ := h.fs; exact afld_agg h1 h2 h4 h3 l
@[push_cast] theorem abuild_T {t : Nat} {ps : List (Nat × Nat)} {z : List Value} [h : TyBd P t ps z] (parts : List (Nat × Value)) : abuild P t parts = (lfill (ps[·]?) z parts).map fun l => .agg l.toArray := h.h parts
@[push_cast] theorem aconv_i {t u : Nat} {q k : IntKind} [h : TyI P t q] [h' : TyI P u k] (H : AH) (r : IntKind) (n : Int) : aconv P H t u (.int r n) = chk k n := aconv_int (askU h.u) (askU h'.u) H r n
@[push_cast] theorem aconv_s {t u : Nat} [h : TyS P t] [h' : TyS P u] (H : AH) (b : ByteArray) : aconv P H t u (.string b) = some (.string b) := aconv_str (askU h.u) (askU h'.u) H b
def appRest (H : AH) (k : Nat) (A : Option Addr) (len c : Nat) (l : Nat) (xs : List Value) : Option App :=
  match A with
  | none => if len = 0 ∧ c = 0 then some ⟨none, xs, l, 0, k⟩ else none
  | some ⟨n, off, sp⟩ =>
    if sp = some k then
      if c = 0 then (if len = 0 then some ⟨none, xs, l, 0, k⟩ else none)
      else (H n).bind fun b => if b.own = true ∧ off + len * k ≤ b.cells.length then some ⟨some n, (b.cells.drop off).take (len * k) ++ xs, len + l, c - 1, k⟩ else none
    else none
theorem aappend_eq {t e k : Nat} {z : List Value} (h : TySl P t e k z) {xt : Nat} {d : TypeDesc} (hd : P.underlying xt = some d) (hni : ∀ q, d ≠ .int q) (H : AH) (A : Option Addr) (len c : Nat) (x : Value) :
    aappend P H [t, xt] (.slice A len c) x = (acellsOf H k x).bind fun r => if r.2.all cellOK = true then appRest H k A len c r.1 r.2 else none := by
  obtain ⟨z0, h1, h2⟩ := h.hz
  have h3 := h.zk
  have h4 := h.lt
  unfold aappend
  simp only [h.h, askU hd, h.hk, h1, h2, h3, h4, and_true, true_and]
  cases d <;> first | exact absurd rfl (hni _) | skip
  all_goals
    cases acellsOf H k x with
    | none => rfl
    | some r =>
      obtain ⟨l, xs⟩ := r
      simp only [Option.bind_some]
      by_cases hx : xs.all cellOK = true
      · rw [if_pos hx, if_pos hx]
        cases A with
        | none =>
          unfold appRest
          cases len <;> cases c <;> simp
        | some a =>
          obtain ⟨n, off, sp⟩ := a
          unfold appRest
          cases sp with
          | none => simp
          | some k' =>
            by_cases hk : k' = k
            · subst hk
              simp only [if_true]
              by_cases hc : c = 0
              · simp [hc]
              · simp only [if_neg hc]
                cases H n <;> simp
            · simp [hk]
      · rw [if_neg hx, if_neg hx]
@[push_cast] theorem aappend_T {t e k : Nat} {z : List Value} [h : TySl P t e k z] {xt e' k' : Nat} {z' : List Value} [h' : TySl P xt e' k' z'] (H : AH) (A : Option Addr) (len c : Nat) (x : Value) :
    aappend P H [t, xt] (.slice A len c) x = (acellsOf H k x).bind fun r => if r.2.all cellOK = true then appRest H k A len c r.1 r.2 else none := aappend_eq h h'.u (fun q e => by cases e) H A len c x
@[push_cast] theorem aappend_TS {t e k : Nat} {z : List Value} [h : TySl P t e k z] {xt : Nat} [h' : TyS P xt] (H : AH) (A : Option Addr) (len c : Nat) (x : Value) :
    aappend P H [t, xt] (.slice A len c) x = (acellsOf H k x).bind fun r => if r.2.all cellOK = true then appRest H k A len c r.1 r.2 else none := aappend_eq h h'.u (fun q e => by cases e) H A len c x
@[push_cast] theorem appRest_nil (H : AH) (k l : Nat) (xs : List Value) : appRest H k none 0 0 l xs = some ⟨none, xs, l, 0, k⟩ := (rfl)
@[push_cast] theorem appRest_own (H : AH) (k n off len c l : Nat) (xs : List Value) : appRest H k (some ⟨n, off, some k⟩) len c l xs =
    if c = 0 then (if len = 0 then some ⟨none, xs, l, 0, k⟩ else none) else (H n).bind fun b => if b.own = true ∧ off + len * k ≤ b.cells.length then some ⟨some n, (b.cells.drop off).take (len * k) ++ xs, len + l, c - 1, k⟩ else none := by
  simp [appRest]
@[push_cast] theorem acellsOf_nil (H : AH) (k : Nat) : acellsOf H k (.slice none 0 0) = some (0, []) := (rfl)
@[push_cast] theorem acellsOf_sl (H : AH) (k n off len c : Nat) : acellsOf H k (.slice (some ⟨n, off, some k⟩) len c) = (H n).bind fun b => if off + len * k ≤ b.cells.length then some (len, (b.cells.drop off).take (len * k)) else none := by
  simp only [acellsOf, true_and]; cases H n <;> rfl
@[push_cast] theorem acellsOf_str (H : AH) (b : ByteArray) : acellsOf H 1 (.string b) = some (b.size, b.data.toList.map byteV) := (rfl)

section
variable {α : Type} [Enc α]
@[push_cast] theorem acellsOf_L (H : AH) {k : Nat} [hk : EncK α k] (xs : List α) : acellsOf H k (lst xs) = some (xs.length, flat xs) := by have := hk.h; subst this; exact acellsOf_lst H xs
@[push_cast] theorem alen_L {t e k : Nat} {z : List Value} [h : TySl P t e k z] (xs : List α) : alen P t (lst xs) = some (.int .i64 xs.length) := by
  rw [lst, alen_lst h.h, List.length_map]
@[push_cast] theorem aidxAddr_L {t e k : Nat} {z : List Value} [h : TySl P t e k z] [hk : EncK α k] (xs : List α) (q : IntKind) (i : Int) : aidxAddr P t (lst xs) (.int q i) = if 0 ≤ i then (xs[i.toNat]?).map (fun x => VP (enc x)) else none := by
  have hk' := hk.h
  subst hk'
  rw [lst, aidxAddr_lst h.h h.hk, List.getElem?_map, Option.map_map]; rfl
@[push_cast] theorem afldAddr_V {t f o k : Nat} {a : Bool} [h : TyF P t f o k a] (cs : List Value) : afldAddr P t (VP cs) f = if o ≤ cs.length then some (VP (cs.drop o)) else none := by
  obtain ⟨fs, u, h1, h2, h3, _⟩ := h.fs
  exact afldAddr_vp h1 h2 h3 h.h0 cs
@[push_cast] theorem aslice_L {t e k : Nat} {z : List Value} [h : TySl P t e k z] [hk : EncK α k] (s : List Value) (xs : List α) (lo hi : Option Operand) : aslice P s t (lst xs) lo hi none =
    (abound s 0 lo).bind fun l => (abound s xs.length hi).bind fun h => if 0 ≤ l ∧ l ≤ h ∧ h ≤ xs.length then some (lst ((xs.take h.toNat).drop l.toNat)) else none := by
  have hk' := hk.h
  subst hk'
  simp only [aslice, lst, LST, h.h, h.hk, if_true, List.size_toArray, List.length_map]
  cases abound s 0 lo with
  | none => rfl
  | some l =>
    cases abound s xs.length hi with
    | none => rfl
    | some h =>
      simp only [Option.bind_some]
      congr 3
      simp [List.extract_eq_take_drop, List.map_drop, List.map_take, List.drop_take]
@[go_sem ↓] theorem abound_none (s : List Value) (d : Int) : abound s d none = some d := (rfl)
@[go_sem ↓] theorem abound_some (s : List Value) (d : Int) (x : Operand) : abound s d (some x) = aint? (ev s x) := (rfl)
@[go_sem] theorem aint_int (k : IntKind) (i : Int) : aint? (.int k i) = some i := (rfl)
@[push_cast] theorem aslice_str {t : Nat} [h : TyS P t] (s : List Value) (b : ByteArray) (lo hi : Option Operand) : aslice P s t (.string b) lo hi none =
    (abound s 0 lo).bind fun l => (abound s b.size hi).bind fun h => if 0 ≤ l ∧ l ≤ h ∧ h ≤ b.size then some (.string (b.extract l.toNat h.toNat)) else none := by
  simp only [aslice, undString_T, true_and]
  cases abound s 0 lo with
  | none => rfl
  | some l =>
    cases abound s b.size hi with
    | none => rfl
    | some h => rfl
@[push_cast] theorem aslice_nil {t e k : Nat} {z : List Value} [h : TySl P t e k z] (s : List Value) (lo hi : Option Operand) : aslice P s t (.slice none 0 0) lo hi none =
    (abound s 0 lo).bind fun l => (abound s 0 hi).bind fun h => if l = 0 ∧ h = 0 then some (.slice none 0 0) else none := by
  simp only [aslice, sizedS_T, true_and]
  cases abound s 0 lo with
  | none => rfl
  | some l =>
    cases abound s 0 hi with
    | none => rfl
    | some h => rfl
@[push_cast] theorem aslice_own {t e k : Nat} {z : List Value} [h : TySl P t e k z] (s : List Value) (n off len c : Nat) (lo hi : Option Operand) : aslice P s t (.slice (some ⟨n, off, some k⟩) len c) lo hi none =
    (abound s 0 lo).bind fun l => (abound s len hi).bind fun h => if 0 ≤ l ∧ l ≤ h ∧ h ≤ (c - 1 : Nat) then some (.slice (some ⟨n, off + l.toNat * k, some k⟩) (h - l).toNat (c - l.toNat)) else none := by
  simp only [aslice, h.h, h.hk, if_true]
  cases abound s 0 lo with
  | none => rfl
  | some l =>
    cases abound s len hi with
    | none => rfl
    | some h => rfl
@[push_cast] theorem abinX_Leq {t e k : Nat} {z : List Value} [h : TySl P t e k z] (xs : List α) : abinX P .eql t (lst xs) (.slice none 0 0) = if 0 < xs.length then some (.bool false) else none := by
  rw [lst, abinX_lseq, if_pos (undFits_lst h.u _ _), List.length_map]
@[push_cast] theorem abinX_Lne {t e k : Nat} {z : List Value} [h : TySl P t e k z] (xs : List α) : abinX P .neq t (lst xs) (.slice none 0 0) = if 0 < xs.length then some (.bool true) else none := by
  rw [lst, abinX_lsne, if_pos (undFits_lst h.u _ _), List.length_map]
end
end

/-! ### loops that count -/
/-- Slots by their numbers: the last word about a slot counts; d is in the others. -/
def lk : List (Nat × Value) → Nat → Value → Value
  | [], _, d => d
  | (j, v) :: l, i, d => if j = i then v else lk l i d
noncomputable def lkP (p : Prop) (v : Value) (l : List (Nat × Value)) (i : Nat) (d : Value) : Value := open Classical in if p then v else lk l i d
noncomputable def selV (p : Prop) (v : Value) : Value := open Classical in if p then v else undef
def aS (n : Nat) (d : Value) (l : List (Nat × Value)) : List Value := (List.range n).map fun i => lk l i d
theorem aS_length (n : Nat) (d : Value) (l : List (Nat × Value)) : (aS n d l).length = n := by simp [aS]
theorem aS_get (n : Nat) (d : Value) (l : List (Nat × Value)) (i : Nat) : (aS n d l)[i]? = if i < n then some (lk l i d) else none := by
  unfold aS
  rw [List.getElem?_map]
  by_cases h : i < n
  · rw [if_pos h, List.getElem?_range h]; rfl
  · rw [if_neg h, List.getElem?_eq_none (by simpa using h)]; rfl
@[go_sem ↓] theorem aS_len (n : Nat) (d : Value) (l : List (Nat × Value)) : (aS n d l).length = n := by rw [aS_length]
@[go_sem ↓] theorem aS_sset (n : Nat) (d : Value) (l : List (Nat × Value)) (i : Nat) (v : Value) : sset (aS n d l) i v = aS n d ((i, v) :: l) := by
  rw [sset_eq]
  refine List.ext_getElem? fun j => ?_
  rw [List.getElem?_set, aS_get, aS_get, aS_length, lk]
  by_cases e : i = j
  · subst e
    rw [if_pos rfl, if_pos rfl]
  · rw [if_neg e, if_neg e]
@[go_sem ↓] theorem aS_sget (n : Nat) (d : Value) (l : List (Nat × Value)) (i : Nat) : sget (aS n d l) i = selV (i < n) (lk l i d) := by
  rw [sget_eq, List.getD_eq_getElem?_getD, aS_get]
  unfold selV
  by_cases h : i < n
  · rw [if_pos h, if_pos h]; rfl
  · rw [if_neg h, if_neg h]; rfl
@[go_sem ↓] theorem selV_true (v : Value) : selV True v = v := by simp [selV]
@[go_sem ↓] theorem lk_nil (i : Nat) (d : Value) : lk [] i d = d := (rfl)
@[go_sem ↓] theorem lk_hit (i : Nat) (v : Value) (l : List (Nat × Value)) (d : Value) : lk ((i, v) :: l) i d = v := by simp [lk]
@[go_sem ↓ low] theorem lk_cons (j i : Nat) (v : Value) (l : List (Nat × Value)) (d : Value) : lk ((j, v) :: l) i d = lkP (j = i) v l i d := by
  unfold lkP
  rw [lk]
  by_cases h : j = i
  · rw [if_pos h, if_pos h]
  · rw [if_neg h, if_neg h]
@[go_sem ↓] theorem lkP_false (v : Value) (l : List (Nat × Value)) (i : Nat) (d : Value) : lkP False v l i d = lk l i d := by simp [lkP]
@[go_sem ↓] theorem lkP_true (v : Value) (l : List (Nat × Value)) (i : Nat) (d : Value) : lkP True v l i d = v := by simp [lkP]
def idx : Nat → List Value → List (Nat × Value)
  | _, [] => []
  | k, v :: l => (k, v) :: idx (k + 1) l
theorem lk_idx (d : Value) : ∀ (l : List Value) (k i : Nat), lk (idx k l) i d = if k ≤ i then l.getD (i - k) d else d
  | [], k, i => by simp [idx, lk]
  | v :: l, k, i => by
    rw [idx, lk, lk_idx d l (k + 1) i]
    by_cases e : k = i
    · subst e; simp
    · rw [if_neg e]
      by_cases h : k ≤ i
      · rw [if_pos h, if_pos (by omega)]
        have : i - k = (i - (k + 1)) + 1 := by omega
        rw [this]; simp
      · rw [if_neg h, if_neg (by omega)]
theorem start_aS (args : List Value) (m : Nat) (h : args.length ≤ m) : args ++ List.replicate (m - args.length) undef = aS m undef (idx 0 args) := by
  refine List.ext_getElem? fun i => ?_
  rw [aS_get, lk_idx, List.getElem?_append, if_pos (Nat.zero_le _), Nat.sub_zero, List.getD_eq_getElem?_getD]
  by_cases h1 : i < args.length
  · rw [if_pos h1, if_pos (by omega), List.getElem?_eq_getElem h1]; rfl
  · rw [if_neg h1, List.getElem?_replicate, List.getElem?_eq_none (Nat.le_of_not_lt h1)]
    by_cases h2 : i < m
    · rw [if_pos h2, if_pos (by omega)]; rfl
    · rw [if_neg h2, if_neg (by omega)]
@[go_sem ↓] theorem idx_nil (k : Nat) : idx k [] = [] := (rfl)
@[go_sem ↓] theorem idx_cons (k : Nat) (v : Value) (l : List Value) : idx k (v :: l) = (k, v) :: idx (k + 1) l := (rfl)

/-- These slots are so. -/
def FitL (s : List Value) : List (Nat × Value) → Prop
  | [] => True
  | (i, v) :: l => sget s i = v ∧ FitL s l
@[go_sem ↓] theorem FitL_nil (s : List Value) : FitL s [] = True := (rfl)
@[go_sem ↓] theorem FitL_cons (s : List Value) (i : Nat) (v : Value) (l : List (Nat × Value)) : FitL s ((i, v) :: l) = (sget s i = v ∧ FitL s l) := (rfl)
theorem FitL.get {s : List Value} : ∀ {l : List (Nat × Value)}, FitL s l → ∀ i, lk l i unk = unk ∨ sget s i = lk l i unk
  | [], _, _ => .inl rfl
  | (j, v) :: l, h, i => by
    rw [lk]
    by_cases e : j = i
    · subst e; rw [if_pos rfl]; exact .inr h.1
    · rw [if_neg e]; exact h.2.get i
theorem fits_of_get : ∀ {s s' : List Value}, s.length = s'.length → (∀ (i : Nat) (x y : Value), s[i]? = some x → s'[i]? = some y → y = unk ∨ x = y) → fits s s'
  | [], [], _, _ => trivial
  | x :: xs, y :: ys, hl, h => ⟨h 0 x y rfl rfl, fits_of_get (by simpa using hl) fun i a b h1 h2 => h (i + 1) a b (by simpa using h1) (by simpa using h2)⟩
  | [], _ :: _, hl, _ => by simp at hl
  | _ :: _, [], hl, _ => by simp at hl
/-- What is forgotten beside these. -/
theorem FitL.fits {s : List Value} {n : Nat} {l : List (Nat × Value)} (h : FitL s l) (hn : s.length = n) : fits s (aS n unk l) := by
  refine fits_of_get (by rw [aS_length]; exact hn) fun i x y h1 h2 => ?_
  rw [aS_get] at h2
  by_cases hi : i < n
  · rw [if_pos hi] at h2
    cases h2
    have := h.get i
    rw [sget_eq, List.getD_eq_getElem?_getD, h1] at this
    exact this
  · rw [if_neg hi] at h2; cases h2

@[push_cast] theorem fits_nil : fits [] [] = True := (rfl)
@[go_sem ↓] theorem fits_unk (x : Value) (xs ys : List Value) : fits (x :: xs) (unk :: ys) = fits xs ys := by simp [fits]
@[go_sem ↓] theorem fits_same (x : Value) (xs ys : List Value) : fits (x :: xs) (x :: ys) = fits xs ys := by simp [fits]
@[go_sem low] theorem fits_or (x y : Value) (xs ys : List Value) : fits (x :: xs) (y :: ys) = ((y = unk ∨ x = y) ∧ fits xs ys) := (rfl)
theorem fits_eq {x y : Value} {xs ys : List Value} (h : x = y ∧ fits xs ys) : fits (x :: xs) (y :: ys) := ⟨.inr h.1, h.2⟩

theorem Tr.lower {P : Program} {N0 : Nat} {c : Code} {Q : APost} {s : List Value} {H : AH} {B : Nat} (h : Tr P B c Q s H B) (hN : N0 ≤ B) : Tr P N0 c (fun e s' H' Bd' => Q e s' H' Bd' ∧ B ≤ Bd') s H B :=
  fun _ A ι a w hst => wp_mono (h (Nat.le_refl _) A ι a w hst) fun e a' w' ⟨ι', s', H', Bd', h1, h2, h3, h4, h5, h6⟩ =>
    ⟨ι', s', H', Bd', ⟨h1, h2⟩, Nat.le_trans hN h2, h3, h4, fun n hn => h5 n (Nat.lt_of_lt_of_le hn hN), h6⟩

/-- A loop that counts up, in memory that is only added to. -/
theorem tr_for {P : Program} {N0 : Nat} {c : Code} {Q : APost} {s : List Value} {H : AH} {Bd : Nat} (I : Nat → Prop) (N : Nat) (sl : Nat → List (Nat × Value)) (h0 : I 0)
    (hs : FitL s (sl 0))
    (round : ∀ i B, I i → i ≤ N → Bd ≤ B → Tr P B c (thenQ (fun s' H' Bd' => i < N ∧ Le H H' ∧ I (i + 1) ∧ s'.length = s.length ∧ FitL s' (sl (i + 1))) Q) (aS s.length unk (sl i)) H B) :
    Tr P N0 (.loop c) Q s H Bd := by
  intro hN
  refine tr_loop (X := Nat × Nat) (I := fun x => I x.1 ∧ x.1 ≤ N ∧ Bd ≤ x.2) (fun x => aS s.length unk (sl x.1)) (fun _ => H) (fun x => x.2) (fun x => N - x.1) (0, Bd) ⟨h0, Nat.zero_le _, Nat.le_refl _⟩ ⟨hs.fits rfl, Le.refl H, Nat.le_refl _⟩ ?_ hN
  rintro ⟨i, B⟩ ⟨hI, hi, hB⟩ hN0
  refine ((round i B hI hi hB).lower hN0).mono fun e s' H' Bd' hq => ?_
  obtain ⟨hq, hle⟩ := hq
  cases e with
  | normal =>
    obtain ⟨h1, h2, h3, h5, h4⟩ := hq
    exact ⟨(i + 1, Bd'), ⟨h3, h1, Nat.le_trans hB hle⟩, by simp only; omega, h4.fits h5, h2, Nat.le_refl _⟩
  | _ => exact hq

end Go.SC
