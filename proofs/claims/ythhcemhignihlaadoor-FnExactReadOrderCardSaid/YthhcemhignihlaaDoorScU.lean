/- Contracts of Go's library, proved by the kit, as functions over abstract memory. -/
import Derived.Lib.ItoaNum
import Derived.Lib.LaidTab
import Derived.Sort.Grow
import Derived.WalkSmall
import Derived.Test.YthhcemhignihlaaDoorScP
import Derived.Below
import Derived.Lib.Join
import Derived.Lib.SlTrimSet
set_option linter.unusedSimpArgs false
set_option linter.unusedVariables false
namespace Go.SC
open Go Go.RowKit

theorem Rel.below {A : Nat → Prop} {ι : Ren} {H : AH} {Bd : Nat} {w w' : World} (hr : Rel A ι H Bd w) (h : Below w.heap.size w w') : Rel A ι H Bd w' := by
  have hfro : Fro ι w w' := ⟨fun B cs e fr hB => ⟨cs, fr, (h.block B (Array.getElem?_eq_some_iff.1 hB).1).trans hB, rfl⟩, fun B cs e fr _ hx => (h.block B (Array.getElem?_eq_some_iff.1 hx).1).trans hx⟩
  refine ⟨hr.bound, fun n b hn => ?_, hr.apart, fun B hB => hr.newA B (Nat.le_trans h.size hB), hr.froz, fun B hB => Nat.lt_of_lt_of_le (hr.fzlt B hB) h.size, fun n b h1 h2 => ⟨(hr.glob n b h1 h2).1, (hr.glob n b h1 h2).2.mono hfro.rows⟩, fun B p hp => ⟨(hr.mp B p hp).1, (hr.mp B p hp).2.other (h.block B (by obtain ⟨es, c, h1, _⟩ := (hr.mp B p hp).2; exact (Array.getElem?_eq_some_iff.1 h1).1))⟩⟩
  refine (hr.blk n b hn).mono (Ext.refl ι) hfro fun B base hB => ?_
  exact h.block B (hr.lt hn hB)
theorem Keep.below {A : Nat → Prop} {ι : Ren} {w w' : World} (h : Below w.heap.size w w') : Keep A ι w ι w' :=
  ⟨h.os, h.tape, h.output, h.size, fun B hB _ => h.block B hB,
    ⟨fun B cs e fr hB => ⟨cs, fr, (h.block B (Array.getElem?_eq_some_iff.1 hB).1).trans hB, rfl⟩, fun B cs e fr _ hx => (h.block B (Array.getElem?_eq_some_iff.1 hx).1).trans hx⟩, FzLe.refl _, fun _ h => .inl h⟩

/-- A function of the library that only adds to memory. -/
theorem SCalls.lib {P : Program} {f : FuncId} {args : List Value} {H : AH} {Bd : Nat} {K : Value → AH → Nat → Prop} (hent : Enters P f) (r : Value)
    (h : ∀ (A : Nat → Prop) (ι : Ren) (vs : Array Value) (w : World), Rel A ι H Bd w → SR ι w args vs → Calls P f vs w fun e w' => ∃ v, e = .returned v ∧ VR ι w' r v ∧ Below w.heap.size w w') (hK : K r H Bd) : SCalls P f args H Bd K := by
  refine ⟨hent, fun A ι vs w hr hs => (h A ι vs w hr hs).mono fun e w' ⟨v, he, hv, hb⟩ => ?_⟩
  exact ⟨v, r, ι, H, Bd, he, hK, Nat.le_refl _, hr.below hb, hv, Keep.below hb, Agr.refl _ _, NI.refl _⟩

theorem SR.one {ι : Ren} {w : World} {x : Value} {vs : Array Value} (h : SR ι w [x] vs) : ∃ v, vs = #[v] ∧ VR ι w x v := by
  obtain ⟨l⟩ := vs
  obtain ⟨h1, h2⟩ := h
  match l, h1 with
  | [v], _ => exact ⟨v, rfl, h2 0 x v rfl rfl⟩
theorem SR.two {ι : Ren} {w : World} {x y : Value} {vs : Array Value} (h : SR ι w [x, y] vs) : ∃ v u, vs = #[v, u] ∧ VR ι w x v ∧ VR ι w y u := by
  obtain ⟨l⟩ := vs
  obtain ⟨h1, h2⟩ := h
  match l, h1 with
  | [v, u], _ => exact ⟨v, u, rfl, h2 0 x v rfl rfl, h2 1 y u rfl rfl⟩
theorem VR.str {ι : Ren} {w : World} {b : ByteArray} {v : Value} (h : VR ι w (.string b) v) : v = .string b := by cases h; rfl
theorem VR.num {ι : Ren} {w : World} {k : IntKind} {n : Int} {v : Value} (h : VR ι w (.int k n) v) : v = .int k n := by cases h; rfl

/-- A table of the program's, in the abstract memory: in its own block, never written. -/
theorem Rel.tab {P : Program} {A : Nat → Prop} {ι : Ren} {H : AH} {Bd : Nat} {w : World} (hr : Rel A ι H Bd w) {name : String} {k : IntKind} {zs : List Int} {g : Nat} (hg : P.globalNamed name = some g) (hH : H g = some ⟨zs.map (Value.int k), false⟩) :
    Lib.TabIs P w name k zs := by
  obtain ⟨hι, cs, e, fr, hB, hsz⟩ := hr.glob g _ hH rfl
  unfold Lib.TabIs World.var?
  rw [hg, Option.bind_some, hB]
  rcases hr.blk g _ hH with ⟨hv, _⟩ | ⟨B, base, cs', e', fr', h1, h2, _, _, h5⟩
  · rw [hι] at hv; cases hv
  rw [hι] at h1; cases h1
  rw [hB] at h2; cases h2
  show some cs = _
  congr 1
  simp only [List.length_map] at hsz
  refine Array.ext (by simp [← hsz]) fun i hi1 hi2 => ?_
  have hi3 : i < zs.length := by simpa using hi2
  obtain ⟨v', g1, g2⟩ := h5 i (Value.int k zs[i]) (by simp [hi3])
  rw [Nat.zero_add, Array.getElem?_eq_getElem hi1] at g1
  cases g1
  simpa using g2.num
/-- The memory where a law that reads tables begins, and what stays of it. -/
def GT (H0 : AH) (H : AH) : Prop := ∀ n b, H0 n = some b → H n = some b
theorem below_grow {w : World} (n : Nat) (os : Array Obj) : Below w.heap.size w (Sort.grow (w.drewN n) os) := by
  refine (below_drewN (Below.refl _ w) n).trans ⟨rfl, rfl, rfl, ?_, fun i hi => ?_⟩
  · simp [Sort.grow]
  · show ((w.drewN n).heap ++ os)[i]? = _
    rw [Array.getElem?_append_left (by simpa using hi)]

/-- A number's text. -/
def itoaB (n : Int) : ByteArray := ⟨(Lib.itoa n).toArray⟩

/-- A list of texts, as the machine has it. -/
theorem vr_strs {ι : Ren} {w : World} {xs : List ByteArray} {v : Value} (h : VR ι w (lst xs) v) : (xs = [] ∧ ∃ A c, v = .slice A 0 c) ∨
    ∃ B base c, v = .slice (some ⟨B, base, none⟩) xs.length c ∧ xs.length ≤ c ∧ B < w.heap.size ∧ ∀ (j : Nat) x, xs[j]? = some x → w.cell? ⟨B, base + j, none⟩ = some (.string x) := by
  generalize hy : lst xs = y at h
  unfold lst LST at hy
  cases h with
  | lst0 =>
    simp only [Value.func.injEq, true_and] at hy
    have := congrArg Array.size hy.2
    simp at this
    exact .inl ⟨this, _, _, rfl⟩
  | lst hfz hB hl hsz hr hc =>
    rename_i k rows B base c' cs e fr
    simp only [Value.func.injEq, true_and] at hy
    obtain ⟨hk, rfl⟩ := hy
    have hk : 1 = k := by injection hk
    subst hk
    simp only [List.size_toArray, List.length_map] at hl
    refine .inr ⟨B, base, c', by simp, hl, (Array.getElem?_eq_some_iff.1 hB).1, fun j x hj => ?_⟩
    have hlt := (List.getElem?_eq_some_iff.1 hj).1
    have h1 : ((xs.map enc).map fun r => Value.agg r.toArray).toArray[j]? = some (.agg #[.string x]) := by
      simp [hj, enc_str]
    have h2 : base + j < cs.size := by omega
    have h3 := hc j 0 #[.string x] (.string x) cs[base + j] h1 (by simp) (by simp [h2])
    generalize hg : cs[base + j] = g at h3
    cases h3
    simp only [World.cell?, hB]
    simp [h2, hg]
  | _ => cases hy

/-- Texts with a separator between them. -/
def joinB (xs : List ByteArray) (sep : ByteArray) : ByteArray := ⟨(Lib.join (xs.map (·.data.toList)) sep.data.toList).toArray⟩
/-- A text without the letters of a set at its ends. -/
def trimB (s cut : ByteArray) : ByteArray := ⟨(Lib.trimS s.data.toList cut.data.toList).toArray⟩
theorem dropWhile_all {α : Type} (p : α → Bool) (l : List α) : l.dropWhile p = [] ↔ l.all p = true := by
  induction l with
  | nil => simp
  | cons x l ih =>
    rw [List.dropWhile_cons, List.all_cons]
    cases p x <;> simp [ih]
theorem trimB_empty (s cut : ByteArray) : trimB s cut = ByteArray.empty ↔ s.data.toList.all (cut.data.toList.contains ·) = true := by
  have h1 : trimB s cut = ByteArray.empty ↔ Lib.trimS s.data.toList cut.data.toList = [] := by
    unfold trimB
    constructor
    · intro h
      have := congrArg (fun b : ByteArray => b.data.toList) h
      simpa using this
    · intro h
      rw [h]; rfl
  rw [h1]
  unfold Lib.trimS Lib.trimLeftS Lib.trimRightS
  rw [dropWhile_all]
  constructor
  · intro h
    rcases hr : (s.data.toList.reverse.dropWhile (cut.data.toList.contains ·)).reverse with _ | ⟨x, r⟩
    · have := List.reverse_eq_nil_iff.1 hr
      rw [dropWhile_all] at this
      simpa using this
    · have h0 : s.data.toList.reverse.dropWhile (cut.data.toList.contains ·) ≠ [] := by
        intro e; rw [e] at hr; simp at hr
      have h2 := List.head_dropWhile_not (cut.data.toList.contains ·) h0
      have h3 : (s.data.toList.reverse.dropWhile (cut.data.toList.contains ·)).head h0 ∈ (s.data.toList.reverse.dropWhile (cut.data.toList.contains ·)).reverse := by
        rw [List.mem_reverse]; exact List.head_mem h0
      have h4 := List.all_eq_true.1 h _ h3
      rw [h4] at h2; cases h2
  · intro h
    refine List.all_eq_true.2 fun x hx => ?_
    rw [List.mem_reverse] at hx
    have := (List.dropWhile_sublist (cut.data.toList.contains ·)).subset hx
    rw [List.mem_reverse] at this
    exact List.all_eq_true.1 h x this
def AZ : List UInt8 := [97, 98, 99, 100, 101, 102, 103, 104, 105, 106, 107, 108, 109, 110, 111, 112, 113, 114, 115, 116, 117, 118, 119, 120, 121, 122]
theorem az_lt : ∀ (j : Nat) (b : UInt8), AZ[j]? = some b → b.toNat < 128 := by
  intro j b h
  have hm := List.mem_of_getElem? h
  have : ∀ b ∈ AZ, b.toNat < 128 := by decide
  exact this b hm
theorem az_nat : ∀ n, n < 256 → ((AZ.map (·.toNat)).contains n = true ↔ 97 ≤ n ∧ n ≤ 122) := by decide +kernel
theorem az_has (b : UInt8) : AZ.contains b = true ↔ 97 ≤ b.toNat ∧ b.toNat ≤ 122 := by
  rw [← az_nat b.toNat (UInt8.toNat_lt b)]
  simp only [List.contains_iff_mem, List.mem_map]
  constructor
  · intro h; exact ⟨b, h, rfl⟩
  · rintro ⟨c, hc, e⟩
    rwa [← UInt8.toNat_inj.1 e]
theorem isNm_trim (s : ByteArray) : (decide (1 ≤ (s.size : Int)) && decide ((s.size : Int) ≤ 3) && decide (trimB s ⟨AZ.toArray⟩ = ⟨#[]⟩)) = isNm s := by
  have h : trimB s ⟨AZ.toArray⟩ = ⟨#[]⟩ ↔ ∀ i, i < s.size → 97 ≤ byteAt s i ∧ byteAt s i ≤ 122 := by
    rw [show (⟨#[]⟩ : ByteArray) = ByteArray.empty from rfl, trimB_empty, List.all_eq_true]
    have hsz : s.data.toList.length = s.size := by simp
    constructor
    · intro h i hi
      have h2 := h (s.data.toList[i]'(by omega)) (List.getElem_mem _)
      rw [show (⟨AZ.toArray⟩ : ByteArray).data.toList = AZ from rfl, az_has] at h2
      unfold byteAt
      rw [List.getD_eq_getElem?_getD, List.getElem?_eq_getElem (by omega)]
      simp only [Option.getD_some]
      omega
    · intro h x hx
      obtain ⟨i, hi, rfl⟩ := List.getElem_of_mem hx
      have h2 := h i (by omega)
      unfold byteAt at h2
      rw [List.getD_eq_getElem?_getD, List.getElem?_eq_getElem hi] at h2
      simp only [Option.getD_some] at h2
      rw [show (⟨AZ.toArray⟩ : ByteArray).data.toList = AZ from rfl, az_has]
      omega
  unfold isNm
  rw [← Bool.decide_and, ← Bool.decide_and]
  congr 1
  refine propext ⟨fun ⟨⟨a, b⟩, c⟩ => ⟨by omega, by omega, h.1 c⟩, fun ⟨a, b, c⟩ => ⟨⟨by omega, by omega⟩, h.2 c⟩⟩
theorem symL_zero : ∀ {xs : List GSymbol}, symL xs = 0 → ∀ x ∈ xs, isNm x.name = true ∧ 0 ≤ x.arity ∧ x.arity ≤ 2
  | [], _, x, hx => by cases hx
  | y :: ys, h, x, hx => by
    unfold symL at h
    split at h
    · rename_i h1
      split at h
      · rename_i h2
        rcases List.mem_cons.1 hx with rfl | hx
        · exact ⟨h1, h2⟩
        · exact symL_zero h x hx
      · cases h
    · cases h
structure SigOK (s : GSignature) : Prop where
  len : 1 ≤ s.symbols.length ∧ s.symbols.length ≤ 6
  nm : ∀ x ∈ s.symbols, isNm x.name = true ∧ 0 ≤ x.arity ∧ x.arity ≤ 2
  nodup : (s.symbols.map (·.name)).Nodup
  const : s.symbols.any (fun x => decide (x.arity = 0)) = true
theorem sig_ok {s : GSignature} (h : sigF s = 0) : SigOK s := by
  unfold sigF at h
  split at h
  · cases h
  · rename_i h1
    unfold sigG at h
    split at h
    · rename_i h2; exact absurd h h2
    · rename_i h2
      split at h
      · cases h
      · rename_i h3
        split at h
        · rename_i h4
          exact ⟨by omega, symL_zero (by simpa using h2), by simpa using h3, h4⟩
        · cases h
theorem isNm_size {b : ByteArray} (h : isNm b = true) : 1 ≤ b.size ∧ b.size ≤ 3 := by
  unfold isNm at h
  have := of_decide_eq_true h
  exact ⟨this.1, this.2.1⟩
theorem isSym_iff {s : GSignature} {n : Int} : isSym s n = true ↔ 0 ≤ n ∧ n < s.symbols.length := by
  unfold isSym
  rw [decide_eq_true_iff]
  omega
structure OrdOK (s : GSignature) (order : List Int) : Prop where
  len : order.length = s.symbols.length
  sym : ∀ n ∈ order, 0 ≤ n ∧ n < s.symbols.length
  nodup : order.Nodup
theorem ord_ok {s : GSignature} {order : List Int} (h : ordG s order = 0) : OrdOK s order := by
  unfold ordG at h
  split at h
  · cases h
  · rename_i h1
    split at h
    · cases h
    · rename_i h2
      split at h
      · rename_i h3
        refine ⟨by simpa using h1, fun n hn => ?_, h3⟩
        rw [← isSym_iff]
        cases hc : isSym s n with
        | true => rfl
        | false => exact absurd (List.any_eq_true.2 ⟨n, hn, by simp [hc]⟩) h2
      · cases h
/-- A symbol's name. -/
def nameAt (s : GSignature) (n : Int) : ByteArray := match s.symbols[n.toNat]? with
  | some x => x.name
  | none => ⟨#[]⟩
theorem nameAt_size {s : GSignature} (h : SigOK s) (n : Int) : (nameAt s n).size ≤ 3 := by
  unfold nameAt
  cases hx : s.symbols[n.toNat]? with
  | none => exact Nat.zero_le _
  | some x => exact (isNm_size (h.nm x (List.mem_of_getElem? hx)).1).2
theorem bapp_size (a b : ByteArray) : (a ++ b).size = a.size + b.size := ByteArray.size_append
theorem bext {a b : ByteArray} (h : a.data.toList = b.data.toList) : a = b := by
  cases a; cases b
  simp only [ByteArray.mk.injEq]
  exact Array.toList_inj.1 h
theorem bapp_list (a b : ByteArray) : (a ++ b).data.toList = a.data.toList ++ b.data.toList := by
  rw [ByteArray.data_append, Array.toList_append]
theorem joinB_nil (sep : ByteArray) : joinB [] sep = ⟨#[]⟩ := rfl
theorem join_snoc (xs : List (List UInt8)) (x sep : List UInt8) (h : xs ≠ []) : Lib.join (xs ++ [x]) sep = Lib.join xs sep ++ sep ++ x := by
  cases xs with
  | nil => exact absurd rfl h
  | cons y r =>
    rw [List.cons_append, Lib.join_cons, Lib.join_cons]
    simp [Lib.joinTail, List.append_assoc]
theorem joinB_snoc (xs : List ByteArray) (x sep : ByteArray) : joinB (xs ++ [x]) sep = (if xs = [] then ⟨#[]⟩ else joinB xs sep ++ sep) ++ x := by
  refine bext ?_
  rw [bapp_list]
  by_cases h : xs = []
  · subst h
    rw [if_pos rfl]
    show (Lib.join [x.data.toList] sep.data.toList) = [] ++ x.data.toList
    rw [Lib.join_one]; rfl
  · rw [if_neg h, bapp_list]
    show (Lib.join ((xs ++ [x]).map _) sep.data.toList) = (Lib.join (xs.map _) sep.data.toList) ++ sep.data.toList ++ x.data.toList
    rw [List.map_append]
    exact join_snoc _ _ _ (by simpa using h)
theorem joinB_size (xs : List ByteArray) (sep : ByteArray) (m : Nat) (h : ∀ x ∈ xs, x.size ≤ m) : (joinB xs sep).size ≤ xs.length * (m + sep.size) := by
  have key : ∀ n, (joinB (xs.take n) sep).size ≤ (xs.take n).length * (m + sep.size) := by
    intro n
    induction n with
    | zero => rw [List.take_zero, joinB_nil]; exact Nat.zero_le _
    | succ n ih =>
      by_cases hn : n < xs.length
      · rw [List.take_succ_eq_append_getElem hn, joinB_snoc, bapp_size]
        have hx := h _ (List.getElem_mem hn)
        have h2 : (if xs.take n = [] then (⟨#[]⟩ : ByteArray) else joinB (xs.take n) sep ++ sep).size ≤ (xs.take n).length * (m + sep.size) + sep.size := by
          split
          · exact Nat.zero_le _
          · rw [bapp_size]; omega
        rw [List.length_append, List.length_singleton, Nat.succ_mul]
        omega
      · rw [List.take_of_length_le (by omega)] at ih ⊢
        exact ih
  have := key xs.length
  rwa [List.take_length] at this
def ordTextR (s : GSignature) (order : List Int) : GTextResult := if ordF s order ≠ 0 then ⟨ordF s order, ⟨#[]⟩⟩ else ⟨0, joinB (order.map (nameAt s)) ⟨#[44]⟩⟩
theorem ordF_zero' {s : GSignature} {order : List Int} (h : ordF s order = 0) : sigF s = 0 ∧ ordG s order = 0 := by
  unfold ordF at h
  split at h
  · rename_i h1; exact absurd h h1
  · rename_i h1; exact ⟨by simpa using h1, h⟩
theorem ordText_size (s : GSignature) (order : List Int) : (ordTextR s order).text.size ≤ 24 := by
  unfold ordTextR
  split
  · exact Nat.zero_le _
  · rename_i h
    obtain ⟨h1, h2⟩ := ordF_zero' (s := s) (order := order) (by simpa using h)
    have hs := sig_ok h1
    have ho := ord_ok h2
    have hsz := joinB_size (order.map (nameAt s)) ⟨#[44]⟩ 3 (fun x hx => by
      obtain ⟨n, hn, rfl⟩ := List.mem_map.1 hx
      exact nameAt_size hs n)
    rw [List.length_map, show (⟨#[44]⟩ : ByteArray).size = 1 from rfl] at hsz
    have := hs.len
    have := ho.len
    show (joinB _ _).size ≤ 24
    omega
theorem sm_ordText (s : GSignature) (order : List Int) : sm (ordTextR s order) = True := by
  have h := ordText_size s order
  refine eq_true ?_
  rw [sm_GTextResult]
  have h2 : sm (ordTextR s order).text := by
    show _ ≤ _
    omega
  simp only [h2, and_true]; try trivial
theorem ordF_zero {s : GSignature} {order : List Int} (h : ordF s order = 0) : sigF s = 0 ∧ ordG s order = 0 := by
  unfold ordF at h
  split at h
  · rename_i h1; exact absurd h h1
  · rename_i h1; exact ⟨by simpa using h1, h⟩
end Go.SC
