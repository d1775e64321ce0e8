/- Finished lists, loops that append or fill, sizes of data, lists that are compared. -/
import Derived.Test.YthhcemhignihlaaDoorScV
set_option linter.unusedSimpArgs false
set_option linter.unusedVariables false
namespace Go.SC
open Go

@[push_cast] theorem amake_T {P : Program} {t e k : Nat} {z : List Value} [h : TySl P t e k z] (q q' : IntKind) (n c : Int) : amake P t (.int q n) (.int q' c) = if 0 ≤ n ∧ n ≤ c ∧ c ≤ 1073741824 then some (k, zmake c.toNat z, n.toNat, c.toNat) else none := by
  obtain ⟨z0, h1, h2⟩ := h.hz
  subst h2
  exact amake_eq h.h h.hk h1 h.zk h.zp h.lt q q' n c

/-! ### structs that are compared -/
def aeqK (P : Program) (xs ys : Array Value) : List (Nat × Nat) → Option Bool
  | [] => some true
  | (t, o) :: r =>
    match xs[o]?, ys[o]? with
    | some a, some b =>
      match acell P t a b, aeqK P xs ys r with
      | some q, some p => some (q && p)
      | _, _ => none
    | _, _ => none
theorem aeqF_K {P : Program} {xs ys : Array Value} : ∀ (fs : List Field), fs.all (fun f => decide (f.name ≠ "_") && (ask P (isAgg f.type) == some false)) = true → aeqF P xs ys fs = aeqK P xs ys (fs.map fun f => (f.type, f.offset))
  | [], _ => rfl
  | f :: fs, h => by
    simp only [List.all_cons, Bool.and_eq_true, decide_eq_true_eq, beq_iff_eq] at h
    obtain ⟨⟨h1, h2⟩, h3⟩ := h
    have ih := aeqF_K (xs := xs) (ys := ys) fs h3
    unfold aeqF
    rw [if_pos h1, h2, ih]
    simp only [List.map_cons, aeqK]
    cases xs[f.offset]? <;> cases ys[f.offset]? <;> rfl
class TyEq (P : Program) (t : TypeId) (ks : outParam (List (Nat × Nat))) : Prop where
  g : (P.stoodInHeld t = false ∧ P.eqGuardType P.depth t = false)
  u : ∃ fs : Array Field, P.underlying t = some (.struct fs) ∧ fs.toList.map (fun f => (f.type, f.offset)) = ks ∧ fs.toList.all (fun f => decide (f.name ≠ "_") && (ask P (isAgg f.type) == some false)) = true
def acmp (P : Program) (xs ys : List Value) : List (Nat × Nat) → Option Bool
  | [] => some true
  | (t, o) :: r => (acell' P t xs[o]? ys[o]?).bind fun q => (acmp P xs ys r).map fun p => q && p
where acell' (P : Program) (t : Nat) (a b : Option Value) : Option Bool := match a, b with
  | some a, some b => acell P t a b
  | _, _ => none
theorem aeqK_acmp {P : Program} {xs ys : List Value} : ∀ ks, aeqK P xs.toArray ys.toArray ks = acmp P xs ys ks
  | [] => rfl
  | (t, o) :: r => by
    simp only [aeqK, acmp, List.getElem?_toArray, aeqK_acmp r]
    cases xs[o]? with
    | none => rfl
    | some a =>
      cases ys[o]? with
      | none => rfl
      | some b =>
        simp only [acmp.acell']
        cases acell P t a b with
        | none => rfl
        | some q => cases acmp P xs ys r <;> rfl
section
variable {P : Program}
@[push_cast] theorem acmp_nil (xs ys : List Value) : acmp P xs ys [] = some true := (rfl)
@[push_cast] theorem acmp_cons (xs ys : List Value) (t o : Nat) (r : List (Nat × Nat)) : acmp P xs ys ((t, o) :: r) = (acmp.acell' P t xs[o]? ys[o]?).bind fun q => (acmp P xs ys r).map fun p => q && p := (rfl)
@[push_cast] theorem acell_int {t : Nat} {q : IntKind} [h : TyI P t q] (k : IntKind) (a b : Int) : acmp.acell' P t (some (.int k a)) (some (.int k b)) = some (decide (a = b)) := by
  simp [acmp.acell', acell, undInt_eq h.u]; rfl
@[push_cast] theorem acell_str {t : Nat} [h : TyS P t] (a b : ByteArray) : acmp.acell' P t (some (.string a)) (some (.string b)) = some (decide (a = b)) := by
  simp [acmp.acell', acell, undString_eq h.u, bytes_beq]
@[push_cast] theorem acell_bool {t : Nat} [h : TyB P t] (a b : Bool) : acmp.acell' P t (some (.bool a)) (some (.bool b)) = some (a == b) := by
  simp [acmp.acell', acell, undBool_eq h.u]
theorem aeqS_T {t : Nat} {ks : List (Nat × Nat)} [h : TyEq P t ks] (xs ys : List Value) : aeqS P t xs.toArray ys.toArray = acmp P xs ys ks := by
  obtain ⟨fs, h1, h2, h3⟩ := h.u
  unfold aeqS
  rw [if_pos h.g, h1]
  simp only
  rw [aeqF_K _ h3, h2, aeqK_acmp]
@[push_cast] theorem abinX_seql {t : Nat} {ks : List (Nat × Nat)} [h : TyEq P t ks] (xs ys : List Value) : abinX P .eql t (.agg xs.toArray) (.agg ys.toArray) = (acmp P xs ys ks).map Value.bool := by
  simp only [abinX, aeqS_T]
@[push_cast] theorem abinX_sneq {t : Nat} {ks : List (Nat × Nat)} [h : TyEq P t ks] (xs ys : List Value) : abinX P .neq t (.agg xs.toArray) (.agg ys.toArray) = (acmp P xs ys ks).map fun b => Value.bool (!b) := by
  simp only [abinX, aeqS_T]
end

/-! ### finished lists -/
section
variable {H : AH} {S : Nat → Prop}
@[go_sem high] theorem Pub_rfl (v : Value) : Pub H S v v = True := eq_true (.same v)
def PubC (H : AH) (S : Nat → Prop) : List Value → List Value → Prop
  | [], [] => True
  | x :: xs, y :: ys => Pub H S x y ∧ PubC H S xs ys
  | _, _ => False
@[push_cast] theorem PubC_nil : PubC H S [] [] = True := (rfl)
@[push_cast] theorem PubC_cons (x y : Value) (xs ys : List Value) : PubC H S (x :: xs) (y :: ys) = (Pub H S x y ∧ PubC H S xs ys) := (rfl)
theorem PubC.get : ∀ (xs ys : List Value), PubC H S xs ys → xs.length = ys.length ∧ ∀ (i : Nat) v u, xs[i]? = some v → ys[i]? = some u → Pub H S v u
  | [], [], _ => ⟨rfl, fun i x y h => by simp at h⟩
  | x :: xs, y :: ys, h => by
    obtain ⟨h1, h2⟩ := PubC.get xs ys h.2
    refine ⟨by simp [h1], fun i a b ha hb => ?_⟩
    cases i with
    | zero =>
      simp only [List.getElem?_cons_zero, Option.some.injEq] at ha hb
      subst ha; subst hb
      exact h.1
    | succ i => exact h2 i a b (by simpa using ha) (by simpa using hb)
  | [], _ :: _, h => h.elim
  | _ :: _, [], h => h.elim
theorem PubC.of : ∀ (xs ys : List Value), xs.length = ys.length → (∀ (i : Nat) v u, xs[i]? = some v → ys[i]? = some u → Pub H S v u) → PubC H S xs ys
  | [], [], _, _ => trivial
  | x :: xs, y :: ys, h, k => ⟨k 0 x y rfl rfl, PubC.of xs ys (by simpa using h) fun i v u h1 h2 => k (i + 1) v u (by simpa using h1) (by simpa using h2)⟩
  | [], _ :: _, h, _ => by simp at h
  | _ :: _, [], h, _ => by simp at h
@[push_cast] theorem Pub_agg (xs ys : List Value) : Pub H S (.agg xs.toArray) (.agg ys.toArray) = PubC H S xs ys := by
  refine propext ⟨fun h => ?_, fun h => ?_⟩
  · generalize hx : Value.agg xs.toArray = x at h
    generalize hy : Value.agg ys.toArray = y at h
    cases h with
    | same => rw [← hx] at hy; cases hy; exact PubC.of _ _ rfl fun i v u h1 h2 => by rw [h1] at h2; cases h2; exact .same _
    | agg hs h => cases hx; cases hy; exact PubC.of _ _ (by simpa using hs) fun i v u h1 h2 => h i v u (by simpa using h1) (by simpa using h2)
    | _ => cases hx
  · obtain ⟨h1, h2⟩ := PubC.get _ _ h
    exact .agg (by simpa using h1) fun i v u g1 g2 => h2 i v u (by simpa using g1) (by simpa using g2)
@[push_cast] theorem Pub_tuple (xs ys : List Value) : Pub H S (.tuple xs.toArray) (.tuple ys.toArray) = PubC H S xs ys := by
  refine propext ⟨fun h => ?_, fun h => ?_⟩
  · generalize hx : Value.tuple xs.toArray = x at h
    generalize hy : Value.tuple ys.toArray = y at h
    cases h with
    | same => rw [← hx] at hy; cases hy; exact PubC.of _ _ rfl fun i v u h1 h2 => by rw [h1] at h2; cases h2; exact .same _
    | tuple hs h => cases hx; cases hy; exact PubC.of _ _ (by simpa using hs) fun i v u h1 h2 => h i v u (by simpa using h1) (by simpa using h2)
    | _ => cases hx
  · obtain ⟨h1, h2⟩ := PubC.get _ _ h
    exact .tuple (by simpa using h1) fun i v u g1 g2 => h2 i v u (by simpa using g1) (by simpa using g2)
@[push_cast] theorem Pub_int (k q : IntKind) (a b : Int) : Pub H S (.int k a) (.int q b) = (k = q ∧ a = b) := by
  refine propext ⟨fun h => by cases h; exact ⟨rfl, rfl⟩, fun ⟨h1, h2⟩ => by subst h1; subst h2; exact .same _⟩
@[push_cast] theorem Pub_bool (a b : Bool) : Pub H S (.bool a) (.bool b) = (a = b) := by
  refine propext ⟨fun h => by cases h; rfl, fun h => by subst h; exact .same _⟩
@[push_cast] theorem Pub_string (a b : ByteArray) : Pub H S (.string a) (.string b) = (a = b) := by
  refine propext ⟨fun h => by cases h; rfl, fun h => by subst h; exact .same _⟩
variable {α : Type} [Enc α]
theorem pub_flat {n o len c k : Nat} {b : Blk} {xs : List α} (hb : H n = some b) (ho : b.own = true) (hc : (b.cells.drop o).take (xs.length * Enc.k α) = flat xs) (hS : S n) (hk : Enc.k α = k) (hl : len = xs.length) :
    Pub H S (.slice (some ⟨n, o, some k⟩) len c) (lst xs) := by
  subst hk; subst hl
  have hle : o + xs.length * Enc.k α ≤ b.cells.length ∨ xs.length * Enc.k α = 0 := by
    have := congrArg List.length hc
    rw [flat_len, List.length_take, List.length_drop] at this
    omega
  rcases Nat.eq_zero_or_pos (xs.length * Enc.k α) with hz | hp
  · have hx : xs.length = 0 := by
      rcases Nat.mul_eq_zero.1 hz with h | h
      · exact h
      · have := Enc.pos (α := α); omega
    obtain rfl := List.eq_nil_of_length_eq_zero hx
    exact .empty
  refine .lst hS hb ho (by simp) (by omega) (fun i x hi => ?_) fun i j r v u h1 h2 h3 => ?_
  · simp only [List.getElem?_toArray, List.getElem?_map] at hi
    cases hx : xs[i]? with
    | none => rw [hx] at hi; cases hi
    | some y =>
      rw [hx] at hi
      simp only [Option.map_some, Option.some.injEq] at hi
      exact ⟨_, hi.symm, by simp [enc_len]⟩
  · simp only [List.getElem?_toArray, List.getElem?_map] at h1
    cases hx : xs[i]? with
    | none => rw [hx] at h1; cases h1
    | some y =>
      rw [hx] at h1
      simp only [Option.map_some, Option.some.injEq, Value.agg.injEq] at h1
      subst h1
      have hi := (List.getElem?_eq_some_iff.1 hx).1
      have hj : j < Enc.k α := by
        have := (Array.getElem?_eq_some_iff.1 h3).1
        simpa [enc_len] using this
      have e := flat_get xs i y hx
      have hm : i * Enc.k α + Enc.k α ≤ xs.length * Enc.k α := by
        have : i * Enc.k α + Enc.k α = (i + 1) * Enc.k α := (Nat.succ_mul _ _).symm
        rw [this]; exact Nat.mul_le_mul_right _ hi
      have h4 : (enc y)[j]? = some u := by simpa using h3
      rw [← e, ← hc, List.getElem?_take, if_pos hj, List.getElem?_drop, List.getElem?_take, if_pos (by omega), List.getElem?_drop] at h4
      rw [show o + (i * Enc.k α + j) = o + i * Enc.k α + j by omega, h2] at h4
      cases h4
      exact .same _
theorem pub_whole {n c k len : Nat} {xs : List α} (hb : H n = some ⟨flat xs, true⟩) (hS : S n) (hk : Enc.k α = k) (hl : len = xs.length) : Pub H S (.slice (some ⟨n, 0, some k⟩) len c) (lst xs) :=
  pub_flat hb rfl (by rw [List.drop_zero, flat_all]) hS hk hl
@[push_cast] theorem Pub_nil : Pub H S (.slice none 0 0) (lst ([] : List α)) = True := eq_true .empty
@[push_cast] theorem Pub_flat {n c k len : Nat} {xs : List α} [hk : EncK α k] (hb : H n = some ⟨flat xs, true⟩) (hS : S n) (hl : len = xs.length) : Pub H S (.slice (some ⟨n, 0, some k⟩) len c) (lst xs) = True := eq_true (pub_whole hb hS hk.h hl)
end
theorem toArr_inj {l k : List Value} : (l.toArray = k.toArray) = (l = k) := propext ⟨fun h => List.toArray_inj h, fun h => by rw [h]⟩
theorem agg_nb {α : Type} [Enc α] (Bd : Nat) (x : α) : NB Bd (.agg (enc x).toArray) := .agg fun i v h => enc_nb x Bd v (List.mem_of_getElem? (by simpa using h))
def NBs (Bd : Nat) : List Value → Prop
  | [] => True
  | x :: xs => NB Bd x ∧ NBs Bd xs
theorem tup_nb {Bd : Nat} {l : List Value} (h : NBs Bd l) : NB Bd (.tuple l.toArray) := by
  refine .tuple fun i v hi => ?_
  have hm : v ∈ l := List.mem_of_getElem? (by simpa using hi)
  clear hi
  induction l with
  | nil => cases hm
  | cons x xs ih =>
    rcases List.mem_cons.1 hm with rfl | hm
    · exact h.1
    · exact ih h.2 hm
/-- Bytes as a text. -/
def bstr (xs : List UInt8) : ByteArray := ⟨xs.toArray⟩
@[push_cast] theorem bstr_eq (xs ys : List UInt8) : (bstr xs = bstr ys) = (xs = ys) := propext ⟨fun h => by
  unfold bstr at h
  injection h with h
  exact List.toArray_inj h, fun h => by rw [h]⟩
theorem anums_flat (xs : List UInt8) : anums (flat xs) = some (xs.map fun x => (x.toNat : Int)) := by
  induction xs with
  | nil => rfl
  | cons x xs ih =>
    rw [flat_cons, enc_byte]
    simp only [List.cons_append, List.nil_append, anums, ih, Option.map_some, List.map_cons]
theorem strOfNums_bytes (xs : List UInt8) : strOfNums (xs.map fun x => (x.toNat : Int)) = bstr xs := by
  unfold strOfNums bstr
  congr 1
  congr 1
  rw [List.map_map]
  conv => rhs; rw [← List.map_id xs]
  refine List.map_congr_left fun x _ => ?_
  simp
@[push_cast] theorem aconv_L {P : Program} {t u : Nat} [h : TyBy P t] [h' : TyS P u] (H : AH) (xs : List UInt8) : aconv P H t u (lst xs) = some (.string (bstr xs)) := by
  show astring P H t u (lst xs) = _
  have hc : acellsOf H 1 (lst xs) = some (xs.length, flat xs) := acellsOf_lst H xs
  simp only [astring, undBytes_T, undString_T, and_self, if_true, hc, anums_flat, Option.map_some, strOfNums_bytes]
theorem HB.no {H : AH} {B n : Nat} (hb : HB H B) (h : B ≤ n) : (H n = none) = True := eq_true (hb.fresh n h)

theorem free_T {H : AH} {B n : Nat} (hb : HB H B) (h : B ≤ n) : free H n = True := eq_true (hb.fresh n h)

theorem Le_updF {G G' : AH} {m : Nat} (c : Option Blk) (h : free G m) : Le G (upd G' m c) = Le G G' := by
  refine propext ⟨fun k n b hn => ?_, fun k n b hn => ?_⟩
  all_goals
    have hne : n ≠ m := by
      intro e
      subst e
      rw [show G n = none from h] at hn
      cases hn
  · have := k n b hn
    rwa [upd_ne _ _ hne] at this
  · rw [upd_ne _ _ hne]
    exact k n b hn
theorem free_upd {H : AH} {n m : Nat} {b : Option Blk} (h : m ≠ n) : free (upd H n b) m = free H m := by
  unfold free
  rw [upd_ne _ _ h]
/-- The cells that a pointer points to: of a variable, or of a list that is never written again. -/
def cellsAt (H : AH) (k : Nat) (v : Value) : Option (List Value) :=
  match v with
  | .pointer (some ⟨n, off, none⟩) => (H n).bind fun b => if off + k ≤ b.cells.length then some ((b.cells.drop off).take k) else none
  | .func (.method _) _ cs => if k ≤ cs.size then some (cs.toList.take k) else none
  | _ => none
@[push_cast] theorem cellsAt_ptr (H : AH) (k n off : Nat) : cellsAt H k (.pointer (some ⟨n, off, none⟩)) = (H n).bind fun b => if off + k ≤ b.cells.length then some ((b.cells.drop off).take k) else none := (rfl)
@[push_cast] theorem cellsAt_vp (H : AH) (k : Nat) (cs : List Value) : cellsAt H k (VP cs) = if k ≤ cs.length then some (cs.take k) else none := by simp [cellsAt, VP]
/-- A pointer to these cells. -/
def At (H : AH) (v : Value) (l : List Value) : Prop :=
  (∃ rest, v = VP (l ++ rest)) ∨ ∃ n off b, v = .pointer (some ⟨n, off, none⟩) ∧ H n = some b ∧ off + l.length ≤ b.cells.length ∧ (b.cells.drop off).take l.length = l
theorem cellsAt_out {H : AH} {k : Nat} {v : Value} {l : List Value} (h : cellsAt H k v = some l) (hr : ∀ m fs cs, v = .func (.method m) fs cs → m = "" ∧ fs = #[]) : At H v l := by
  unfold cellsAt at h
  split at h
  · rename_i n off
    cases hb : H n with
    | none => rw [hb] at h; cases h
    | some b =>
      rw [hb] at h
      simp only [Option.bind_some, Option.ite_none_right_eq_some, Option.some.injEq] at h
      obtain ⟨hle, rfl⟩ := h
      have hl : ((b.cells.drop off).take k).length = k := by simp; omega
      exact .inr ⟨n, off, b, rfl, hb, by omega, by rw [hl]⟩
  · rename_i m fs cs
    simp only [Option.ite_none_right_eq_some, Option.some.injEq] at h
    obtain ⟨hle, rfl⟩ := h
    obtain ⟨rfl, rfl⟩ := hr _ _ _ rfl
    exact .inl ⟨cs.toList.drop k, by rw [List.take_append_drop]; simp [VP]⟩
  · cases h
def vadd (v : Value) (o : Nat) : Value :=
  match v with
  | .pointer (some ⟨n, off, none⟩) => .pointer (some ⟨n, off + o, none⟩)
  | .func (.method _) _ cs => .func (.method "") #[] (cs.extract o cs.size)
  | v => v
theorem vadd_vp (cs : List Value) (o : Nat) : vadd (VP cs) o = VP (cs.drop o) := by
  simp only [vadd, VP, List.extract_toArray, List.size_toArray, List.extract_eq_take_drop]
  rw [List.take_of_length_le (by simp)]
section
variable {H H' : AH} {v : Value} {l : List Value}
theorem At.nil (h : At H v l) : anilck v = some v := by
  rcases h with ⟨r, rfl⟩ | ⟨n, off, b, rfl, _⟩ <;> rfl
theorem At.fld (h : At H v l) {P : Program} {t f o k : Nat} {a : Bool} [hf : TyF P t f o k a] (ho : o ≤ l.length) : afldAddr P t v f = some (vadd v o) := by
  rcases h with ⟨r, rfl⟩ | ⟨n, off, b, rfl, _⟩
  · rw [afldAddr_V, if_pos (by simp; omega), vadd_vp]
  · rw [afldAddr_ptr]; rfl
theorem At.off (h : At H v l) {o k : Nat} (ho : o + k ≤ l.length) (ho' : o < l.length) (P : Program) {t : Nat} {a : Bool} {z : Value} [ht : TyZ P t k a z] (hle : Le H H') :
    (∃ cs, vadd v o = VP cs ∧ aload P t ⟨cs, false⟩ 0 = aload P t ⟨l.drop o, false⟩ 0) ∨ ∃ n off b, vadd v o = .pointer (some ⟨n, off, none⟩) ∧ H' n = some b ∧ aload P t b off = aload P t ⟨l.drop o, false⟩ 0 := by
  have hk := ht.hk
  have ha := ht.ha
  rcases h with ⟨r, rfl⟩ | ⟨n, off, b, rfl, hb, hl, ht'⟩
  · refine .inl ⟨_, vadd_vp _ _, ?_⟩
    unfold aload
    rw [ha, hk]
    cases a with
    | true =>
      simp only [Nat.zero_add, List.drop_zero, List.length_drop, List.length_append]
      by_cases hk0 : 0 < k
      · rw [if_pos ⟨hk0, by omega⟩, if_pos ⟨hk0, by omega⟩, List.drop_append_of_le_length (by omega), List.take_append_of_le_length (by simp; omega)]
      · rw [if_neg (fun h => hk0 h.1), if_neg (fun h => hk0 h.1)]
    | false =>
      simp only [List.getElem?_drop, Nat.add_zero]
      rw [List.getElem?_append_left ho']
  · refine .inr ⟨n, off + o, b, rfl, hle n b hb, ?_⟩
    have hd : l.drop o = ((b.cells.drop (off + o)).take (l.length - o)) := by
      conv => lhs; rw [← ht']
      rw [List.drop_take, List.drop_drop]
    unfold aload
    rw [ha, hk, hd]
    cases a with
    | true =>
      simp only [Nat.zero_add, List.drop_zero, List.length_take, List.length_drop]
      by_cases hk0 : 0 < k
      · rw [if_pos ⟨hk0, by omega⟩, if_pos ⟨hk0, by omega⟩, List.take_take, Nat.min_eq_left (by omega)]
      · rw [if_neg (fun h => hk0 h.1), if_neg (fun h => hk0 h.1)]
    | false =>
      simp only
      rw [List.getElem?_take, if_pos (by omega), List.getElem?_drop, Nat.add_zero]
theorem At.ld (h : At H v l) {P : Program} {t o k : Nat} {a : Bool} {z : Value} [ht : TyZ P t k a z] (ho : o + k ≤ l.length) (ho' : o < l.length) (hle : Le H H') :
    aloadV P t H' (vadd v o) = aload P t ⟨l.drop o, false⟩ 0 := by
  rcases h.off ho ho' P (t := t) hle with ⟨cs, e1, e2⟩ | ⟨n, off, b, e1, e2, e3⟩
  · rw [e1, aloadV_vp, e2]
  · rw [e1, aloadV_ptr, e2, Option.bind_some, e3]
theorem vadd_zero (h : At H v l) : vadd v 0 = v := by
  rcases h with ⟨r, rfl⟩ | ⟨n, off, b, rfl, _⟩
  · rw [vadd_vp, List.drop_zero]
  · rfl
/-- The pointer handed on. -/
theorem At.cells (h : At H v l) {k : Nat} (hk : k ≤ l.length) (hle : Le H H') : cellsAt H' k v = some (l.take k) := by
  rcases h with ⟨r, rfl⟩ | ⟨n, off, b, rfl, hb, hl, ht'⟩
  · rw [cellsAt_vp, if_pos (by simp; omega), List.take_append_of_le_length hk]
  · rw [cellsAt_ptr, hle n b hb, Option.bind_some, if_pos (by omega), ← ht', List.take_take, Nat.min_eq_left hk]
theorem At.fldL (h : At H v l) {m : Nat} (hl : l.length = m) {P : Program} {t f o k : Nat} {a : Bool} [hf : TyF P t f o k a] (ho : o ≤ m) : afldAddr P t v f = some (vadd v o) := h.fld (by omega)
theorem At.ldL (h : At H v l) {m : Nat} (hl : l.length = m) {P : Program} {t o k : Nat} {a : Bool} {z : Value} [ht : TyZ P t k a z] (ho : o + k ≤ m) (ho' : o < m) (hle : Le H H') :
    aloadV P t H' (vadd v o) = aload P t ⟨l.drop o, false⟩ 0 := h.ld (by omega) (by omega) hle
theorem At.ld0L (h : At H v l) {m : Nat} (hl : l.length = m) {P : Program} {t k : Nat} {a : Bool} {z : Value} [ht : TyZ P t k a z] (ho : k ≤ m) (ho' : 0 < m) (hle : Le H H') :
    aloadV P t H' v = aload P t ⟨l, false⟩ 0 := by
  have := h.ld (P := P) (t := t) (o := 0) (by omega) (by omega) hle
  rwa [vadd_zero h, List.drop_zero] at this
theorem At.cellsL (h : At H v l) {m : Nat} (hl : l.length = m) {k : Nat} (hk : k ≤ m) (hle : Le H H') : cellsAt H' k v = some (l.take k) := h.cells (by omega) hle
theorem At.cellsOL (h : At H v l) {m : Nat} (hl : l.length = m) {k o : Nat} (hk : o + k ≤ m) (hle : Le H H') : cellsAt H' k (vadd v o) = some ((l.drop o).take k) := by
  have hk' : o + k ≤ l.length := by omega
  rcases h with ⟨r, rfl⟩ | ⟨n, off, b, rfl, hb, hl, ht'⟩
  · rw [vadd_vp, cellsAt_vp, if_pos (by simp; omega), List.drop_append_of_le_length (by omega), List.take_append_of_le_length (by simp; omega)]
  · show cellsAt H' k (.pointer (some ⟨n, off + o, none⟩)) = _
    have hd : l.drop o = ((b.cells.drop (off + o)).take (l.length - o)) := by
      conv => lhs; rw [← ht']
      rw [List.drop_take, List.drop_drop]
    rw [cellsAt_ptr, hle n b hb, Option.bind_some, if_pos (by omega), hd, List.take_take, Nat.min_eq_left (by omega)]
end
theorem NB.vpok {Bd : Nat} {v : Value} (h : NB Bd v) : ∀ m fs cs, v = .func (.method m) fs cs → m = "" ∧ fs = #[] := by
  intro m fs cs e
  subst e
  cases h
  exact ⟨rfl, rfl⟩
theorem agg_inj {l : List Value} {α : Type} [Enc α] {x : α} (h : Value.agg l.toArray = .agg (enc x).toArray) : l = enc x := by
  injection h with h
  exact List.toArray_inj h

/-! ### memory that is only added to -/
theorem Le.u {H0 G : AH} {m : Nat} {b : Option Blk} (hm : G m = b) (h : Le H0 G) : Le (upd H0 m b) G := fun n x hn => by
  by_cases e : n = m
  · subst e; rw [upd_same] at hn; rw [hm, hn]
  · rw [upd_other _ _ e] at hn; exact h n x hn
theorem Le.drop {H0 G : AH} {n B : Nat} {b : Option Blk} (hb : HB H0 B) (hn : B ≤ n) (h : Le H0 G) : Le H0 (upd G n b) := by rw [Le_upd hb b hn]; exact h

theorem Tr.of_hb {P : Program} {N0 : Nat} {c : Code} {Q : APost} {s : List Value} {H : AH} {Bd : Nat} (h : HB H Bd → Tr P N0 c Q s H Bd) : Tr P N0 c Q s H Bd :=
  fun hN A ι a w hst => h hst.rel.hb hN A ι a w hst

/-- Less is said of a state. -/
theorem Tr.sub {P : Program} {N0 : Nat} {c : Code} {Q : APost} {s s' : List Value} {H H' : AH} {Bd Bd' : Nat} (hs : Sub s H Bd s' H' Bd') (h : Tr P N0 c Q s' H' Bd') : Tr P N0 c Q s H Bd := by
  intro hN A ι a w hst
  refine wp_mono (h (Nat.le_trans hN hs.2.2) A ι a w (hs.st hst)) fun e a' w' ⟨ι', s2, H2, Bd2, g1, g2, g3, g4, g5, g6⟩ => ?_
  exact ⟨ι', s2, H2, Bd2, g1, g2, g3, g4, g5, NI.trans ((NI.refl H).sub hs.2.1) g6⟩

/-- The nil slice is an own block without cells. -/
theorem Tr.fresh {P : Program} {N0 : Nat} {c : Code} {Q : APost} {s : List Value} {H : AH} {Bd : Nat} (t k : Nat) (ht : sget s t = .slice none 0 0) (h : Tr P N0 c Q (sset s t (.slice (some ⟨Bd, 0, some k⟩) 0 1)) (upd H Bd (some ⟨[], true⟩)) (Bd + 1)) :
    Tr P N0 c Q s H Bd := by
  intro hN A ι a w hst
  have hb : ι Bd = none := hst.rel.bound Bd (Nat.le_refl _)
  have hx := ext_ren (.void) hb
  have hlt : t < s.length := by
    rcases Nat.lt_or_ge t s.length with h | h
    · exact h
    · rw [sget_eq, List.getD_eq_getElem?_getD, List.getElem?_eq_none h] at ht; cases ht
  have hst' : St A (ren ι Bd .void) (sset s t (.slice (some ⟨Bd, 0, some k⟩) 0 1)) (upd H Bd (some ⟨[], true⟩)) (Bd + 1) a w := by
    refine ⟨(hst.rel.raise (Nat.le_succ Bd)).void hb (Nat.lt_succ_self _), ?_, hst.defers⟩
    rw [sset_eq]
    refine ⟨by simp [hst.slots.1], fun i v v' g1 g2 => ?_⟩
    by_cases e : t = i
    · subst e
      rw [List.getElem?_set_self hlt] at g1
      cases g1
      have hs : s[t]? = some (.slice none 0 0) := by
        rw [sget_eq, List.getD_eq_getElem?_getD, List.getElem?_eq_getElem hlt] at ht
        rw [List.getElem?_eq_getElem hlt]; exact congrArg some ht
      have := hst.slots.2 t _ v' hs g2
      cases this
      exact .sl ⟨_, ren_same _ _ _⟩ (Nat.le_refl _) (by simp) (by simp) (.inl rfl)
    · rw [List.getElem?_set_ne e] at g1
      exact (hst.slots.2 i v v' g1 g2).mono hx (Fro.refl ι w)
  refine wp_mono (h (Nat.le_trans hN (Nat.le_succ _)) A _ a w hst') fun e a' w' ⟨ι', s2, H2, Bd2, g1, g2, g3, g4, g5, g6⟩ => ?_
  refine ⟨ι', s2, H2, Bd2, g1, g2, g3, (Keep.refl A w).trans g4, fun n hn => ?_, NI.trans ((NI.refl H).upd _ _) g6⟩
  rw [g5 n hn, ren_other _ _ (by omega)]

/-! ### loops -/
/-- A loop: what is true each time round, and a measure. -/
theorem tr_inv {P : Program} {N0 : Nat} {c : Code} {Q : APost} {s : List Value} {H : AH} {Bd : Nat} {X : Type} (I : X → List Value → AH → Nat → Prop) (μ : X → Nat) (x0 : X) (s1 : List Value) (H1 : AH) (B1 : Nat) (hs : Sub s H Bd s1 H1 B1) (h0 : I x0 s1 H1 B1)
    (round : ∀ x s H B, I x s H B → Bd ≤ B → HB H B → Tr P B c (thenQ (fun s' H' B' => ∃ y s2 H2 B2, μ y < μ x ∧ Sub s' H' B' s2 H2 B2 ∧ I y s2 H2 B2) Q) s H B) : Tr P N0 (.loop c) Q s H Bd := by
  intro hN
  refine tr_loop (X := X × List Value × AH × Nat) (I := fun x => I x.1 x.2.1 x.2.2.1 x.2.2.2 ∧ Bd ≤ x.2.2.2) (fun x => x.2.1) (fun x => x.2.2.1) (fun x => x.2.2.2) (fun x => μ x.1) (x0, s1, H1, B1) ⟨h0, hs.2.2⟩ hs ?_ hN
  rintro ⟨x, s, H, B⟩ ⟨hI, hB⟩ hN0
  refine Tr.of_hb fun hb => ((round x s H B hI hB hb).lower hN0).mono fun e s' H' Bd' hq => ?_
  obtain ⟨hq, hle⟩ := hq
  cases e with
  | normal =>
    obtain ⟨y, s2, H2, B2, h1, h2, h3⟩ := hq
    exact ⟨(y, s2, H2, B2), ⟨h3, Nat.le_trans hB (Nat.le_trans hle h2.2.2)⟩, h1, h2⟩
  | _ => exact hq

/-- A loop that appends to one list. -/
theorem tr_acc {P : Program} {N0 : Nat} {c : Code} {Q : APost} {s : List Value} {H H0 : AH} {B0 Bd : Nat} {α : Type} [Enc α] (N : Nat) (acc : Nat → List α) (sl : Nat → Value → List (Nat × Value)) {n0 c0 : Nat} (hc0 : 0 < c0) (hn0 : B0 ≤ n0 ∧ n0 < Bd)
    (hs : FitL s (sl 0 (.slice (some ⟨n0, 0, some (Enc.k α)⟩) (acc 0).length c0))) (hH : Le (upd H0 n0 (some ⟨flat (acc 0), true⟩)) H)
    (round : ∀ i n c0 B, i ≤ N → 0 < c0 → B0 ≤ n → n < B → Bd ≤ B → HB (upd H0 n (some ⟨flat (acc i), true⟩)) B →
      Tr P B c (thenQ (fun s' H' B' => i < N ∧ ∃ n' c', 0 < c' ∧ B0 ≤ n' ∧ n' < B' ∧ Le (upd H0 n' (some ⟨flat (acc (i + 1)), true⟩)) H' ∧ s'.length = s.length ∧ FitL s' (sl (i + 1) (.slice (some ⟨n', 0, some (Enc.k α)⟩) (acc (i + 1)).length c'))) Q)
        (aS s.length unk (sl i (.slice (some ⟨n, 0, some (Enc.k α)⟩) (acc i).length c0))) (upd H0 n (some ⟨flat (acc i), true⟩)) B) : Tr P N0 (.loop c) Q s H Bd := by
  refine tr_inv (X := Nat) (fun i s' H' B' => i ≤ N ∧ ∃ n c0, 0 < c0 ∧ B0 ≤ n ∧ n < B' ∧ s' = aS s.length unk (sl i (.slice (some ⟨n, 0, some (Enc.k α)⟩) (acc i).length c0)) ∧ H' = upd H0 n (some ⟨flat (acc i), true⟩)) (fun i => N - i) 0 _ _ Bd ⟨hs.fits rfl, hH, Nat.le_refl _⟩
    ⟨Nat.zero_le _, n0, c0, hc0, hn0.1, hn0.2, rfl, rfl⟩ ?_
  rintro i s' H' B' ⟨hi, n, c1, h1, h2, h3, rfl, rfl⟩ hB hb'
  refine (round i n c1 B' hi h1 h2 h3 hB hb').mono fun e s2 H2 B2 hq => ?_
  cases e with
  | normal =>
    obtain ⟨g1, n', c', g2, g3, g4, g5, g7, g6⟩ := hq
    exact ⟨i + 1, _, _, B2, by omega, ⟨g6.fits g7, g5, Nat.le_refl _⟩, g1, n', c', g2, g3, g4, rfl, rfl⟩
  | _ => exact hq

/-- A loop that fills a block whose elements are there already. -/
theorem tr_fill {P : Program} {N0 : Nat} {c : Code} {Q : APost} {s : List Value} {H H0 : AH} {B0 Bd n : Nat} {α : Type} [Enc α] (hb : HB H0 B0) (ys : List α) (sl : Nat → List (Nat × Value)) (L0 : List Value) (hL0 : L0.length = ys.length * Enc.k α) (hn0 : B0 ≤ n ∧ n < Bd)
    (hs : FitL s (sl 0)) (hH : Le (upd H0 n (some ⟨L0, true⟩)) H)
    (round : ∀ i L B, i ≤ ys.length → L.length = ys.length * Enc.k α → L.take (i * Enc.k α) = flat (ys.take i) → Bd ≤ B → HB (upd H0 n (some ⟨L, true⟩)) B →
      Tr P B c (thenQ (fun s' H' B' => ∃ (y : α), ys[i]? = some y ∧ Le (upd H0 n (some ⟨lset L (i * Enc.k α) (enc y), true⟩)) H' ∧ s'.length = s.length ∧ FitL s' (sl (i + 1))) Q) (aS s.length unk (sl i)) (upd H0 n (some ⟨L, true⟩)) B) : Tr P N0 (.loop c) Q s H Bd := by
  refine tr_inv (X := Nat) (fun i s' H' B' => i ≤ ys.length ∧ ∃ L, L.length = ys.length * Enc.k α ∧ L.take (i * Enc.k α) = flat (ys.take i) ∧ s' = aS s.length unk (sl i) ∧ H' = upd H0 n (some ⟨L, true⟩)) (fun i => ys.length - i) 0 _ _ Bd ⟨hs.fits rfl, hH, Nat.le_refl _⟩
    ⟨Nat.zero_le _, L0, hL0, by simp [flat], rfl, rfl⟩ ?_
  rintro i s' H' B' ⟨hi, L, h1, h2, rfl, rfl⟩ hB hb'
  refine (round i L B' hi h1 h2 hB hb').mono fun e s2 H2 B2 hq => ?_
  cases e with
  | normal =>
    obtain ⟨y, g1, g2, g4, g3⟩ := hq
    have hlt := (List.getElem?_eq_some_iff.1 g1).1
    have hm : i * Enc.k α + Enc.k α ≤ ys.length * Enc.k α := by
      have : i * Enc.k α + Enc.k α = (i + 1) * Enc.k α := (Nat.succ_mul _ _).symm
      rw [this]; exact Nat.mul_le_mul_right _ hlt
    refine ⟨i + 1, _, _, B2, by omega, ⟨g3.fits g4, g2, Nat.le_refl _⟩, hlt, _, by rw [lset_length]; exact h1, ?_, rfl, rfl⟩
    rw [List.take_succ_eq_append_getElem hlt, flat_append, flat_one, ← h2, (List.getElem?_eq_some_iff.1 g1).2]
    have hel := enc_len y
    refine List.ext_getElem? fun j => ?_
    rw [List.getElem?_take, List.getElem?_append, Nat.succ_mul]
    simp only [List.length_take, h1]
    by_cases hj : j < i * Enc.k α
    · rw [if_pos (by omega), if_pos (by omega), lset_get _ _ _ _ (by omega), if_pos hj, List.getElem?_take, if_pos hj]
    · by_cases hj2 : j < i * Enc.k α + Enc.k α
      · rw [if_pos hj2, if_neg (by omega), lset_get _ _ _ _ (by omega), if_neg hj, if_pos (by omega)]
        congr 1; omega
      · rw [if_neg hj2, if_neg (by omega), List.getElem?_eq_none (by omega)]
  | _ => exact hq

/-- A list is finished. -/
theorem Tr.done {P : Program} {N0 : Nat} {c : Code} {Q : APost} {s s' : List Value} {H H0 : AH} {B0 Bd n : Nat} (hb : HB H0 B0) (hn : B0 ≤ n) (hs : PubL H (fun m => m = n) s s') (hH : Le H0 H) (h : Tr P N0 c Q s' H0 Bd) : Tr P N0 c Q s H Bd :=
  Tr.pub (fun m => m = n) hs hH (fun m b hm e => by subst e; rw [hb.fresh m hn] at hm; cases hm) (Nat.le_refl _) h
@[push_cast] theorem PubL_nil {H : AH} {S : Nat → Prop} : PubL H S [] [] = True := (rfl)
@[go_sem ↓] theorem PubL_unk {H : AH} {S : Nat → Prop} (x : Value) (xs ys : List Value) : PubL H S (x :: xs) (unk :: ys) = PubL H S xs ys := by simp [PubL]
@[go_sem ↓] theorem PubL_same {H : AH} {S : Nat → Prop} (x : Value) (xs ys : List Value) : PubL H S (x :: xs) (x :: ys) = PubL H S xs ys := by simp [PubL, Pub.same]
@[go_sem low] theorem PubL_cons {H : AH} {S : Nat → Prop} (x y : Value) (xs ys : List Value) : PubL H S (x :: xs) (y :: ys) = ((y = unk ∨ Pub H S x y) ∧ PubL H S xs ys) := (rfl)

theorem PubL_refl {H : AH} {S : Nat → Prop} : ∀ (s : List Value), PubL H S s s
  | [] => trivial
  | x :: xs => ⟨.inr (.same x), PubL_refl xs⟩
theorem PubL_set {H : AH} {S : Nat → Prop} : ∀ (s : List Value) (t : Nat) (v : Value), Pub H S (sget s t) v → PubL H S s (sset s t v)
  | [], _, _, _ => trivial
  | x :: xs, 0, v, h => ⟨.inr h, PubL_refl xs⟩
  | x :: xs, t + 1, v, h => ⟨.inr (.same x), PubL_set xs t v h⟩
/-- The list in slot t is finished. -/
theorem Tr.fin {P : Program} {N0 : Nat} {c : Code} {Q : APost} {s : List Value} {H0 : AH} {B0 Bd n k len c0 : Nat} {α : Type} [Enc α] [hk : EncK α k] {xs : List α} (hb : HB H0 B0) (t : Nat) (hn : B0 ≤ n) (ht : sget s t = .slice (some ⟨n, 0, some k⟩) len c0) (hl : len = xs.length)
    (h : Tr P N0 c Q (sset s t (lst xs)) H0 Bd) : Tr P N0 c Q s (upd H0 n (some ⟨flat xs, true⟩)) Bd := by
  refine Tr.done hb hn (PubL_set s t _ ?_) (Le.drop hb hn (Le.refl _)) h
  rw [ht]
  exact pub_whole (upd_same _ _ _) rfl hk.h hl

theorem Tr.fin2 {P : Program} {N0 : Nat} {c : Code} {Q : APost} {s : List Value} {H0 : AH} {Bd n k len c0 : Nat} {α : Type} [Enc α] [hk : EncK α k] {xs : List α} (t : Nat) (hf : free H0 n) (ht : sget s t = .slice (some ⟨n, 0, some k⟩) len c0) (hl : len = xs.length)
    (h : Tr P N0 c Q (sset s t (lst xs)) H0 Bd) : Tr P N0 c Q s (upd H0 n (some ⟨flat xs, true⟩)) Bd := by
  refine Tr.pub (fun m => m = n) (PubL_set s t _ ?_) (fun m b hm => ?_) (fun m b hm e => by subst e; rw [show H0 m = none from hf] at hm; cases hm) (Nat.le_refl _) h
  · rw [ht]
    exact pub_whole (upd_same _ _ _) rfl hk.h hl
  · rw [upd_ne _ _ (fun e => by subst e; rw [show H0 m = none from hf] at hm; cases hm)]
    exact hm

@[go_sem] theorem le_self (n : Nat) : (n ≤ n) = True := eq_true (Nat.le_refl n)
@[go_sem high] theorem flat_allk {α : Type} [Enc α] {k : Nat} [hk : EncK α k] (xs : List α) : (flat xs).take (xs.length * k) = flat xs := by
  have := hk.h
  subst this
  exact flat_all xs
@[go_sem high] theorem flat_all1 {α : Type} [Enc α] [hk : EncK α 1] (xs : List α) : (flat xs).take xs.length = flat xs := by
  have := flat_allk (k := 1) xs
  rwa [Nat.mul_one] at this
theorem Le_upd2 {H0 G : AH} {m : Nat} {b : Option Blk} (h : free H0 m) : Le (upd H0 m b) (upd G m b) = Le H0 G := by
  refine propext ⟨fun k n c hn => ?_, fun k n c hn => ?_⟩
  · have hne : n ≠ m := fun e => by subst e; rw [show H0 n = none from h] at hn; cases hn
    have := k n c (by rw [upd_ne _ _ hne]; exact hn)
    rwa [upd_ne _ _ hne] at this
  · by_cases e : n = m
    · subst e; rw [upd_same] at hn ⊢; exact hn
    · rw [upd_ne _ _ e] at hn ⊢; exact k n c hn
theorem acc_end {H0 G : AH} {B0 B' m ni need cap k len : Nat} {cells cells' : List Value} (h1 : B0 ≤ m) (h2 : m < B') (hl : need = len) (hc : cells = cells') (hle : Le (upd H0 m (some ⟨cells, true⟩)) (upd (upd G ni none) m (some ⟨cells, true⟩))) :
    ∃ n' c', 0 < c' ∧ B0 ≤ n' ∧ n' < B' ∧ Le (upd H0 n' (some ⟨cells, true⟩)) (appHeap G ⟨some ni, cells', need, cap, k⟩ m) ∧ appVal ⟨some ni, cells', need, cap, k⟩ m = .slice (some ⟨n', 0, some k⟩) len c' := by
  subst hc
  exact ⟨m, capUp need cap, by unfold capUp; split <;> omega, h1, h2, hle, by simp [appVal, hl]⟩
theorem Le_app {H G : AH} {B k m need cap kk : Nat} {cells : List Value} (hb : HB H B) (h1 : B ≤ k) (h2 : B ≤ m) : Le H (appHeap G ⟨some k, cells, need, cap, kk⟩ m) = Le H G := by
  show Le H (upd (upd G k none) m (some ⟨cells, true⟩)) = _
  rw [Le_updF _ (hb.fresh m h2), Le_updF _ (hb.fresh k h1)]
/-- How large data is: every list inside is short enough to be counted; and the count. -/
class Sz (α : Type) where
  s : α → Prop
  t : α → Nat
  r : α → Prop
def rg {α : Type} [Sz α] (x : α) : Prop := Sz.r x
def sm {α : Type} [Sz α] (x : α) : Prop := Sz.s x
def tot {α : Type} [Sz α] (x : α) : Nat := Sz.t x
instance : Sz Int := ⟨fun _ => True, fun _ => 0, fun n => R64 n⟩
instance : Sz Bool := ⟨fun _ => True, fun _ => 0, fun _ => True⟩
instance : Sz UInt8 := ⟨fun _ => True, fun _ => 0, fun _ => True⟩
instance : Sz ByteArray := ⟨fun b => b.size ≤ 281474976710656, fun b => b.size, fun _ => True⟩
instance {α β : Type} [Sz α] [Sz β] : Sz (α × β) := ⟨fun x => sm x.1 ∧ sm x.2, fun x => tot x.1 + tot x.2, fun x => rg x.1 ∧ rg x.2⟩
instance {α : Type} [Sz α] : Sz (List α) := ⟨fun xs => xs.length ≤ 281474976710656 ∧ ∀ x ∈ xs, sm x, fun xs => xs.length + (xs.map tot).sum, fun xs => ∀ x ∈ xs, rg x⟩

/-- What is left of a bound. -/
def szP (n : Nat) (left : Int) : Int := if left - n < 0 then -1 else left - n
theorem szP_add {a b : Nat} {left : Int} (h : ¬ left - a < 0) : szP (a + b) left = szP b (left - a) := by
  unfold szP
  split <;> split <;> omega
theorem szP_neg {a b : Nat} {left : Int} (h : left - a < 0) : szP (a + b) left = -1 := by
  unfold szP
  split
  · rfl
  · omega

@[simp] theorem tot_pair {α β : Type} [Sz α] [Sz β] (x : α × β) : tot x = tot x.1 + tot x.2 := rfl
@[simp] theorem tot_int (x : Int) : tot x = 0 := rfl
@[simp] theorem tot_bool (x : Bool) : tot x = 0 := rfl
@[simp] theorem tot_byte (x : UInt8) : tot x = 0 := rfl
@[simp] theorem tot_str (x : ByteArray) : tot x = x.size := rfl
theorem tot_list {α : Type} [Sz α] (xs : List α) : tot xs = xs.length + (xs.map tot).sum := rfl
@[simp] theorem tot_ints (xs : List Int) : tot xs = xs.length := by
  rw [tot_list, show (xs.map (tot : Int → Nat)) = List.replicate xs.length 0 from by induction xs <;> simp_all [List.replicate_succ]]
  simp
@[simp] theorem tot_bytes (xs : List UInt8) : tot xs = xs.length := by
  rw [tot_list, show (xs.map (tot : UInt8 → Nat)) = List.replicate xs.length 0 from by induction xs <;> simp_all [List.replicate_succ]]
  simp
/-- The count of the first elements. -/
def totTo {α : Type} [Sz α] (xs : List α) (i : Nat) : Nat := ((xs.take i).map tot).sum
@[simp] theorem totTo_zero {α : Type} [Sz α] (xs : List α) : totTo xs 0 = 0 := by simp [totTo]
theorem totTo_succ {α : Type} [Sz α] (xs : List α) {i : Nat} (h : i < xs.length) : totTo xs (i + 1) = totTo xs i + tot xs[i] := by
  simp only [totTo]
  rw [List.take_succ_eq_append_getElem h]
  simp only [List.map_append, List.sum_append, List.map_cons, List.map_nil, List.sum_cons, List.sum_nil, Nat.add_zero]
theorem totTo_end {α : Type} [Sz α] (xs : List α) {i : Nat} (h : xs.length ≤ i) : totTo xs i = (xs.map tot).sum := by
  simp only [totTo, List.take_of_length_le h]
theorem szP_le (n : Nat) {left : Int} (h : -1 ≤ left) : -1 ≤ szP n left ∧ szP n left ≤ left ∨ left = -1 := by unfold szP; split <;> omega
theorem totTo_le {α : Type} [Sz α] (xs : List α) {i : Nat} (h : i ≤ xs.length) : totTo xs i ≤ (xs.map tot).sum := by
  simp only [totTo]
  have : (xs.map tot).sum = ((xs.take i).map tot).sum + ((xs.drop i).map tot).sum := by
    rw [← List.sum_append, ← List.map_append, List.take_append_drop]
  omega
theorem tot_mem {α : Type} [Sz α] {xs : List α} {i : Nat} (h : i < xs.length) : tot xs[i] ≤ (xs.map tot).sum := by
  have h1 := totTo_succ xs h
  have h2 : totTo xs (i + 1) ≤ (xs.map tot).sum := totTo_le xs (Nat.succ_le_of_lt h)
  omega
theorem sz_step {α : Type} [Sz α] {xs : List α} {i : Nat} (hlt : i < xs.length) {left : Int} (hI : 0 ≤ left - xs.length - totTo xs i) :
    Cnp (szP (tot xs[i]) (left - xs.length - totTo xs i) < 0) (-1 = szP (tot xs) left)
      (0 ≤ left - xs.length - totTo xs (i + 1) ∧ szP (tot xs[i]) (left - xs.length - totTo xs i) = left - xs.length - totTo xs (i + 1)) := by
  have h1 := totTo_succ xs hlt
  have h2 : totTo xs (i + 1) ≤ (xs.map tot).sum := totTo_le xs (Nat.succ_le_of_lt hlt)
  have h3 := tot_list xs
  have h4 : szP (tot xs[i]) (left - xs.length - totTo xs i) < 0 ↔ left - xs.length - totTo xs (i + 1) < 0 := by
    unfold szP; split <;> omega
  refine ⟨fun h => ?_, fun h => ?_⟩
  · have := h4.1 h
    unfold szP
    rw [if_pos (by omega)]
  · rw [h4] at h
    refine ⟨by omega, ?_⟩
    unfold szP
    rw [if_neg (by omega)]
    omega
theorem sz_step_in {α : Type} [Sz α] {xs : List α} {i : Nat} (hlt : i < xs.length) {left : Int} (hI : 0 ≤ left - xs.length - totTo xs i) :
    Cnp (left - xs.length - totTo xs i - tot xs[i] < 0) (-1 = szP (tot xs) left)
      (0 ≤ left - xs.length - totTo xs (i + 1) ∧ left - xs.length - totTo xs i - tot xs[i] = left - xs.length - totTo xs (i + 1)) := by
  have h1 := totTo_succ xs hlt
  have h2 : totTo xs (i + 1) ≤ (xs.map tot).sum := totTo_le xs (Nat.succ_le_of_lt hlt)
  have h3 := tot_list xs
  refine ⟨fun h => ?_, fun h => ⟨by omega, by omega⟩⟩
  unfold szP
  rw [if_pos (by omega)]
theorem sz_end {α : Type} [Sz α] {xs : List α} {i : Nat} (hge : xs.length ≤ i) {left : Int} (hI : 0 ≤ left - xs.length - totTo xs i) : left - xs.length - totTo xs i = szP (tot xs) left := by
  have h1 := totTo_end xs hge
  have h3 := tot_list xs
  unfold szP
  rw [if_neg (by omega)]
  omega
theorem szP_or (n : Nat) (left : Int) : szP n left = -1 ∨ szP n left = left - n := by unfold szP; split <;> omega
theorem szP_ub (n : Nat) {left : Int} (h : left ≤ 1048576) : szP n left ≤ 1048576 := by unfold szP; split <;> omega
theorem szP_bd (n : Nat) {left : Int} (h : -1 ≤ left ∧ left ≤ 1048576) : -1 ≤ szP n left ∧ szP n left ≤ 1048576 := by unfold szP; split <;> omega
theorem szP_bd' (n : Nat) {left : Int} (h : -1 ≤ left ∧ left ≤ 1048576) : ¬ szP n left < 0 → 0 ≤ szP n left := by omega
theorem szP_go {a b : Nat} {left : Int} {A B : Prop} (hA : szP (a + b) left = -1 → A) (hB : szP (a + b) left = szP b (szP a left) → B) : Cnp (szP a left < 0) A B := by
  refine ⟨fun h => hA ?_, fun h => hB ?_⟩
  · unfold szP at h ⊢; split at h <;> rw [if_pos (by omega)]
  · have : ¬ left - a < 0 := fun k => h (by unfold szP; rw [if_pos k]; omega)
    rw [szP_add this]
    congr 1
    unfold szP; rw [if_neg this]
theorem szP_goI {a b : Nat} {left : Int} {A B : Prop} (hA : szP (a + b) left = -1 → A) (hB : szP (a + b) left = szP b (left - a) → B) : Cnp (left - a < 0) A B :=
  ⟨fun h => hA (szP_neg h), fun h => hB (szP_add h)⟩
theorem szP_last {a : Nat} {left : Int} : Cnp (szP a left < 0) (-1 = szP a left) True := by
  refine ⟨fun h => ?_, fun _ => trivial⟩
  unfold szP at h ⊢; split at h
  · rename_i k; rw [if_pos k]
  · contradiction
theorem szP_lastT {a : Nat} {left : Int} : Cnp (szP a left < 0) (-1 = szP a left) (szP a left = szP a left) := by
  have := szP_last (a := a) (left := left)
  exact ⟨this.1, fun _ => rfl⟩
theorem szP_lastI {a : Nat} {left : Int} : Cnp (left - a < 0) (-1 = szP a left) (left - a = szP a left) := by
  refine ⟨fun h => ?_, fun h => ?_⟩
  · unfold szP; rw [if_pos h]
  · unfold szP; rw [if_neg h]
@[push_cast] theorem sm_int (x : Int) : sm x = True := (rfl)
@[push_cast] theorem sm_bool (x : Bool) : sm x = True := (rfl)
@[push_cast] theorem sm_byte (x : UInt8) : sm x = True := (rfl)
theorem sm_str (x : ByteArray) : sm x = (x.size ≤ 281474976710656) := (rfl)
theorem sm_list {α : Type} [Sz α] (xs : List α) : sm xs = (xs.length ≤ 281474976710656 ∧ ∀ x ∈ xs, sm x) := (rfl)
theorem sm_len {α : Type} [Sz α] {xs : List α} (h : sm xs) : xs.length ≤ 281474976710656 := h.1
theorem sm_mem {α : Type} [Sz α] {xs : List α} (h : sm xs) {x : α} (hx : x ∈ xs) : sm x := h.2 x hx
theorem sm_ints (xs : List Int) : sm xs ↔ xs.length ≤ 281474976710656 := ⟨fun h => h.1, fun h => ⟨h, fun _ _ => trivial⟩⟩

theorem cmp_step {α : Type} [DecidableEq α] {xs ys : List α} {i : Nat} (hl : xs.length = ys.length) (hI : ∀ j, j < i → xs[j]? = ys[j]?) (hi : i < xs.length) (hi' : i < ys.length) {A : Prop} {b : Bool} (hb : b = false)
    (hA : (∀ j, j < i + 1 → xs[j]? = ys[j]?) → A) : Cnp (xs[i] = ys[i]) A (b = decide (xs = ys)) := by
  refine ⟨fun he => hA fun j hj => ?_, fun hne => ?_⟩
  · by_cases e : j = i
    · subst e; simp [hi, hi', he]
    · exact hI j (by omega)
  · subst hb
    have : ¬ xs = ys := fun e => by subst e; exact hne rfl
    simp [this]
theorem cmp_end {α : Type} [DecidableEq α] {xs ys : List α} {i : Nat} (hl : xs.length = ys.length) (hI : ∀ j, j < i → xs[j]? = ys[j]?) (hi : xs.length ≤ i) : true = decide (xs = ys) := by
  have : xs = ys := List.ext_getElem? fun j => by
    by_cases hj : j < i
    · exact hI j hj
    · rw [List.getElem?_eq_none (by omega), List.getElem?_eq_none (by omega)]
  simp [this]
theorem cmp_len {α : Type} [DecidableEq α] {xs ys : List α} (hl : ¬ xs.length = ys.length) : false = decide (xs = ys) := by
  have : ¬ xs = ys := fun e => by subst e; exact hl rfl
  simp [this]
end Go.SC
