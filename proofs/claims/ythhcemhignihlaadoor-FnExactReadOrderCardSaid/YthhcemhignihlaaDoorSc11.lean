/- Strings cut at a byte; lists of strings in own memory by the library's functions. -/
import Derived.Test.YthhcemhignihlaaDoorSc10
import Derived.Lib.SplitLaws
import Derived.Lib.RowBridge
import Derived.Shelf.SlicesE.DeleteFunc
set_option linter.unusedSimpArgs false
set_option linter.unusedVariables false
namespace Go.SC
open Go

/-! ### a text cut at a byte -/
def preL (p : List UInt8) : List (List UInt8) → List (List UInt8)
  | q :: qs => (p ++ q) :: qs
  | [] => [p]
def cutL (c : UInt8) : List UInt8 → List (List UInt8)
  | [] => [[]]
  | b :: l => if b = c then [] :: cutL c l else preL [b] (cutL c l)
theorem cutL_ne (c : UInt8) (l : List UInt8) : cutL c l ≠ [] := by
  cases l with
  | nil => simp [cutL]
  | cons b l =>
    unfold cutL
    split
    · simp
    · cases cutL c l <;> simp [preL]
theorem preL_preL (p q : List UInt8) (x : List (List UInt8)) : preL p (preL q x) = preL (p ++ q) x := by
  cases x <;> simp [preL]
theorem preL_nil {x : List (List UInt8)} (h : x ≠ []) : preL [] x = x := by
  cases x with
  | nil => exact absurd rfl h
  | cons a x => rfl
theorem split_cutL (c : UInt8) : ∀ l : List UInt8, Lib.splitK [c] 0 (Lib.count l [c]) l = cutL c l
  | [] => by
    show Lib.splitK [c] 0 (Lib.count [] [c]) [] = [[]]
    rw [Lib.count_one]; rfl
  | b :: l => by
    have ih := split_cutL c l
    by_cases e : b = c
    · subst e
      rw [Lib.count_cons_eq, Nat.add_comm]
      have hi : Lib.index (b :: l) [b] = 0 := by simp [Lib.index]
      unfold Lib.splitK cutL
      rw [if_neg (by rw [hi]; decide), if_pos rfl, hi]
      simp only [Int.toNat_zero, Nat.add_zero, List.take_zero, Nat.zero_add, List.length_singleton, List.drop_succ_cons, List.drop_zero]
      rw [ih]
    · rw [Lib.count_cons_ne b c l e]
      have hp : (c == b) = false := beq_eq_false_iff_ne.2 (fun h => e h.symm)
      have hi : Lib.index (b :: l) [c] = if Lib.index l [c] == -1 then -1 else Lib.index l [c] + 1 := by
        rw [Lib.index, if_neg (by simp [List.isPrefixOf, hp])]
      have hc : cutL c (b :: l) = preL [b] (cutL c l) := by rw [cutL, if_neg e]
      rw [hc, ← ih]
      cases hk : Lib.count l [c] with
      | zero => simp [Lib.splitK, preL]
      | succ k =>
        unfold Lib.splitK
        rcases Decidable.em (Lib.index l [c] = -1) with h | h
        · rw [hi, if_pos (beq_iff_eq.2 h), h]; simp [preL]
        · have hge := Lib.index_ge l [c]
          rw [if_neg (by simpa using h)] at hi
          rw [hi, if_neg (by simp; omega), if_neg (by simpa using h)]
          have : (Lib.index l [c] + 1).toNat = (Lib.index l [c]).toNat + 1 := by omega
          rw [this]
          simp only [preL, Nat.add_zero, List.length_singleton, List.take_succ_cons, List.drop_succ_cons, List.singleton_append]
/-- The pieces that end before place i, and where the next one begins. -/
def cutS (s : ByteArray) (c : UInt8) : Nat → List ByteArray × Nat
  | 0 => ([], 0)
  | i + 1 => if s.data.toList[i]? = some c ∨ i = s.size then ((cutS s c i).1 ++ [s.extract (cutS s c i).2 i], i + 1) else cutS s c i
def cutB (s : ByteArray) (c : UInt8) : List ByteArray := (cutS s c (s.size + 1)).1
theorem cutS_le (s : ByteArray) (c : UInt8) : ∀ i, (cutS s c i).2 ≤ i
  | 0 => Nat.le_refl 0
  | i + 1 => by
    have := cutS_le s c i
    unfold cutS; split
    · exact Nat.le_refl _
    · omega
theorem cutS_len (s : ByteArray) (c : UInt8) : ∀ i, (cutS s c i).1.length ≤ i
  | 0 => Nat.le_refl 0
  | i + 1 => by
    have := cutS_len s c i
    unfold cutS; split
    · simp; omega
    · omega
theorem ext_list (s : ByteArray) (a b : Nat) : (s.extract a b).data.toList = (s.data.toList.take b).drop a := by
  rw [ByteArray.data_extract]; simp [List.drop_take]
theorem size_list (s : ByteArray) : s.data.toList.length = s.size := by rw [Array.length_toList]; rfl
theorem cutS_inv (s : ByteArray) (c : UInt8) : ∀ i, i ≤ s.size → cutL c s.data.toList = (cutS s c i).1.map (·.data.toList) ++ preL ((s.data.toList.take i).drop (cutS s c i).2) (cutL c (s.data.toList.drop i))
  | 0, _ => by simp [cutS, preL_nil (cutL_ne _ _)]
  | i + 1, h => by
    have ih := cutS_inv s c i (by omega)
    have hle := cutS_le s c i
    have hlt : i < s.data.toList.length := by rw [size_list]; omega
    rw [List.drop_eq_getElem_cons hlt] at ih
    have hg : s.data.toList[i]? = some s.data.toList[i] := List.getElem?_eq_getElem hlt
    unfold cutS
    by_cases e : s.data.toList[i] = c
    · rw [if_pos (.inl (by rw [hg, e]))]
      rw [ih, cutL, if_pos e]
      rw [show List.drop (i + 1) (List.take (i + 1) s.data.toList) = [] from List.drop_of_length_le (by rw [List.length_take]; omega), preL_nil (cutL_ne _ _)]
      simp only [preL, List.append_nil, List.map_append, List.map_cons, List.map_nil, List.append_assoc, List.singleton_append, ext_list]
    · rw [if_neg (by rintro (h2 | h2) <;> first | omega | (rw [hg] at h2; exact e (Option.some.inj h2)))]
      rw [ih, cutL, if_neg e, preL_preL]
      congr 2
      rw [List.take_succ_eq_append_getElem hlt, List.drop_append_of_le_length (by simp; omega)]
theorem cutB_list (s : ByteArray) (c : UInt8) : (cutB s c).map (·.data.toList) = cutL c s.data.toList := by
  rw [cutS_inv s c s.size (Nat.le_refl _)]
  rw [show List.drop s.size s.data.toList = [] from List.drop_of_length_le (by rw [size_list]; exact Nat.le_refl _)]
  rw [show cutB s c = (cutS s c s.size).1 ++ [s.extract (cutS s c s.size).2 s.size] by unfold cutB; rw [cutS, if_pos (.inr rfl)]]
  simp only [cutL, preL, List.append_nil, List.map_append, List.map_cons, List.map_nil, ext_list]
theorem cut_split (s : ByteArray) (c : UInt8) : Lib.splitB ⟨#[c]⟩ 0 (Lib.countB s ⟨#[c]⟩) s = cutB s c := by
  have h1 := Lib.splitB_data ⟨#[c]⟩ 0 (Lib.countB s ⟨#[c]⟩) s
  have h2 : Lib.countB s ⟨#[c]⟩ = Lib.count s.data.toList [c] := rfl
  rw [h2] at h1 ⊢
  rw [show (ByteArray.mk #[c]).data.toList = [c] from rfl, split_cutL, ← cutB_list] at h1
  have hinj : ∀ a b : ByteArray, a.data.toList = b.data.toList → a = b := fun a b h => by
    obtain ⟨⟨a⟩⟩ := a; obtain ⟨⟨b⟩⟩ := b; simp only at h; rw [h]
  revert h1
  generalize Lib.splitB ⟨#[c]⟩ 0 (Lib.count s.data.toList [c]) s = x
  generalize cutB s c = y
  induction x generalizing y with
  | nil => cases y <;> simp
  | cons a x ih =>
    cases y with
    | nil => simp
    | cons b y =>
      intro h
      simp only [List.map_cons, List.cons.injEq] at h
      rw [hinj a b h.1, ih y h.2]
theorem cutB_len (s : ByteArray) (c : UInt8) : (cutB s c).length = Lib.countB s ⟨#[c]⟩ + 1 := by
  rw [← cut_split]; exact Lib.splitB_all ⟨#[c]⟩ (Nat.le_refl 1) 0 _ s rfl
theorem cutB_len_le (s : ByteArray) (c : UInt8) : (cutB s c).length ≤ s.size + 1 := cutS_len s c _
theorem cutB_pos (s : ByteArray) (c : UInt8) : 0 < (cutB s c).length := by rw [cutB_len]; omega

/-! ### functions of the library that yield new memory -/
theorem SCalls.lib_new {P : Program} {f : FuncId} {args : List Value} {H : AH} {Bd : Nat} {K : Value → AH → Nat → Prop} (hent : Enters P f) {k : Nat} (len : Nat) (cells : List Value) (ty : TypeId) (hpos : 0 < len) (hlen : cells.length = len * k)
    (h : ∀ (A : Nat → Prop) (ι : Ren) (vs : Array Value) (w : World), Rel A ι H Bd w → SR ι w args vs → (∀ v ∈ cells, VR ι w v v) ∧ Calls P f vs w fun e w' => e = .returned (.slice (some ⟨w.heap.size, 0, none⟩) len len) ∧ w' = w.alloc (.cells cells.toArray ty))
    (hK : K (.slice (some ⟨Bd, 0, some k⟩) len (len + 1)) (upd H Bd (some ⟨cells, true⟩)) (Bd + 1)) : SCalls P f args H Bd K := by
  refine ⟨hent, fun A ι vs w hr hs => (h A ι vs w hr hs).2.mono fun e w' ⟨he, hw⟩ => ?_⟩
  have hv := (h A ι vs w hr hs).1
  subst hw
  have hm : ι Bd = none := hr.bound Bd (Nat.le_refl _)
  have r := (hr.raise (Nat.le_succ Bd)).new (e := ty) (L := cells) (cs := cells.toArray) (fr := (0, 0)) hm (Nat.lt_succ_self _) (fun i v hi => ⟨v, by simpa using hi, hv v (List.mem_of_getElem? hi)⟩) (fun i _ h => by simp at h)
  refine ⟨_, _, ren ι Bd (.at w.heap.size 0), _, Bd + 1, he, hK, Nat.le_succ _, r, ?_, Keep.alloc A w _, fun n hn => ren_other _ _ (by omega), (NI.refl _).upd _ _⟩
  refine .sl ⟨_, ren_same _ _ _⟩ (Nat.le_refl _) (by omega) (by omega) (.inr ⟨w.heap.size, 0, cells.length, ren_same _ _ _, rfl, ⟨_, ty, (0, 0), alloc_new w _, by simp⟩, by rw [hlen]; omega⟩)

def strsOf : List Value → Option (List ByteArray)
  | [] => some []
  | .string s :: l => (strsOf l).map (s :: ·)
  | _ => none
theorem strsOf_flat : ∀ xs : List ByteArray, strsOf (flat xs) = some xs
  | [] => rfl
  | x :: xs => by
    show (strsOf (flat xs)).map (x :: ·) = _
    rw [strsOf_flat xs]; rfl
@[go_sem] theorem strsOf_eq (xs : List ByteArray) : strsOf (flat xs) = some xs := strsOf_flat xs
theorem strsOf_out : ∀ {l : List Value} {xs : List ByteArray}, strsOf l = some xs → l = xs.map Value.string
  | [], xs, h => by simp only [strsOf, Option.some.injEq] at h; subst h; rfl
  | v :: l, xs, h => by
    cases v with
    | string s =>
      simp only [strsOf, Option.map_eq_some_iff] at h
      obtain ⟨ys, h1, rfl⟩ := h
      rw [strsOf_out h1]; rfl
    | _ => cases h
theorem flat_strs (xs : List ByteArray) : flat xs = xs.map Value.string := (strsOf_out (strsOf_flat xs))
theorem own_openS {A : Nat → Prop} {ι : Ren} {H : AH} {Bd : Nat} {w : World} (hr : Rel A ι H Bd w) {n l c : Nat} {b : Blk} (hb : H n = some b) (ho : b.own = true) {v' : Value} (hv : VR ι w (.slice (some ⟨n, 0, some 1⟩) l c) v') {zs : List ByteArray} (hz : b.cells = zs.map Value.string) (hl : l = zs.length) :
    (l = 0 ∧ ∃ A' c', v' = .slice A' 0 c') ∨ ∃ B base c', v' = .slice (some ⟨B, base, none⟩) l c' ∧ l ≤ c' ∧ ι n = some (.at B base) ∧ B < w.heap.size ∧ Sort.Holds Value.string w B base zs.toArray := by
  cases hv with
  | sl h1 h2 h3 h4 h5 =>
    rename_i c' A'
    rcases h5 with h5 | ⟨B, base, size, g1, rfl, g3, g4⟩
    · exact .inl ⟨by omega, A', c', by rw [show l = 0 by omega]⟩
    · refine .inr ⟨B, base, c', rfl, h2, g1, hr.lt hb g1, fun j hj => ?_⟩
      rcases hr.blk n b hb with ⟨hv, _⟩ | ⟨B1, base1, cs, e, fr, q1, q2, q3, q4, q5⟩
      · rw [g1] at hv; cases hv
      · rw [g1] at q1; cases q1
        have hj' : j < zs.length := by simpa using hj
        have hc : b.cells[j]? = some (.string zs[j]) := by rw [hz]; simp [hj']
        obtain ⟨u, u1, u2⟩ := q5 j _ hc
        cases u2
        have hlt := (Array.getElem?_eq_some_iff.1 u1).1
        refine ⟨?_, ?_⟩
        · show w.cell? ⟨B, base + 0 + j, none⟩ = _
          rw [Nat.add_zero, cell_of q2, u1, getElem!_pos _ j hj]; simp
        · show w.frozen? ⟨B, base + 0 + j, none⟩ = _
          rw [Nat.add_zero]
          exact frozen_of q2 (q3 ho).2 hlt
theorem LR_strs (ι : Ren) (w : World) (ys : List ByteArray) : LR ι w (ys.map Value.string) (ys.map Value.string) := ⟨rfl, fun i v v' h1 h2 => by
  rw [h1] at h2; cases h2
  obtain ⟨y, _, rfl⟩ := List.mem_map.1 (List.mem_of_getElem? h1)
  exact .string _⟩
/-- slices.DeleteFunc on an own list of texts; a closure that captures nothing. -/
def DelT (g : Nat) (p : ByteArray → Bool) : Trans := fun args H Bd K => ∃ (n l c : Nat), args = [.slice (some ⟨n, 0, some 1⟩) l c, .func (.func g) #[] #[]] ∧ Yld (H n) fun b => Yld (strsOf b.cells) fun zs => (b.own = true ∧ l = zs.length ∧ 1 ≤ l ∧ zs.length ≤ 9223372036854775807) ∧
  K (.slice (some ⟨n, 0, some 1⟩) (zs.filter fun x => !p x).length c) (upd H n (some ⟨flat (zs.filter fun x => !p x), true⟩)) Bd
theorem DelT_eq (g : Nat) (p : ByteArray → Bool) (n l c : Nat) (H : AH) (Bd : Nat) (K : Value → AH → Nat → Prop) : DelT g p [.slice (some ⟨n, 0, some 1⟩) l c, .func (.func g) #[] #[]] H Bd K = (Yld (H n) fun b => Yld (strsOf b.cells) fun zs => (b.own = true ∧ l = zs.length ∧ 1 ≤ l ∧ zs.length ≤ 9223372036854775807) ∧
  K (.slice (some ⟨n, 0, some 1⟩) (zs.filter fun x => !p x).length c) (upd H n (some ⟨flat (zs.filter fun x => !p x), true⟩)) Bd) := by
  refine propext ⟨fun h => ?_, fun h => ⟨_, _, _, rfl, h⟩⟩
  obtain ⟨n', l', c', e, h⟩ := h
  simp only [List.cons.injEq, Value.slice.injEq, Option.some.injEq, Addr.mk.injEq, true_and, and_true] at e
  obtain ⟨rfl, rfl, rfl⟩ := e
  exact h
theorem del_ok {P : Program} {f : FuncId} (g : Nat) (p : ByteArray → Bool) (hent : Enters P f) (hg : ∀ (x : ByteArray) (W : World), Calls P g #[.string x] W fun e w' => e = .returned (.bool (p x)) ∧ w' = W)
    (h1 : ∀ (blk off cap : Nat) (d : Array ByteArray) (w : World), Proofs.PredAt P g #[] Value.string p w → Proofs.PredOver P g #[] Value.string p blk off d.size w → Sort.Holds Value.string w blk off d → d.size ≤ 9223372036854775807 → d.size ≤ cap →
      Calls P f #[.slice (some ⟨blk, off, none⟩) d.size cap, .func (.func g) #[] #[]] w fun e w' => e = .returned (.slice (some ⟨blk, off, none⟩) (d.toList.filter fun x => !p x).length cap) ∧ ∃ q, w' = Sort.putRow Value.string (Sort.ahead w q) blk off ((d.toList.filter fun x => !p x) ++ List.replicate (d.size - (d.toList.filter fun x => !p x).length) ByteArray.empty).toArray) :
    ∀ args H Bd K, DelT g p args H Bd K → SCalls P f args H Bd K := by
  rintro args H Bd K ⟨n, l, c, rfl, b, hb, zs, hz, ⟨ho, hl, hle, hle2⟩, hK⟩
  refine ⟨hent, fun A ι vs w hr hs => ?_⟩
  obtain ⟨v, u, rfl, hv, hu⟩ := hs.two
  have hz' := strsOf_out hz
  have hu' : u = .func (.func g) #[] #[] := by
    cases hu with
    | func h1 _ => rename_i ys _; have : ys = #[] := Array.eq_empty_of_size_eq_zero h1.symm; rw [this]
  subst hu'
  have hcl : (zs.filter fun x => !p x).length ≤ zs.length := List.length_filter_le _ _
  have hres : ∀ {w'} (hf : Fro ι w w') (m : Nat), m ≤ l → VR ι w' (.slice (some ⟨n, 0, some 1⟩) m c) (reLen v m) := fun hf m hm => by
    cases hv with
    | sl g1 g2 g3 g4 g5 =>
      refine .sl g1 (by omega) g3 g4 (g5.imp id ?_)
      rintro ⟨B, base, size, q1, q2, q3, q4⟩
      exact ⟨B, base, size, q1, q2, q3.mono hf.rows, q4⟩
  rcases own_openS hr hb ho hv hz' hl with ⟨h0, _⟩ | ⟨B, base, c', rfl, g1, g2, g3, g4⟩
  · omega
  · subst hl
    have hcall := h1 B base c' zs.toArray w (fun W x _ => (hg x W).mono fun e w' ⟨he, hw⟩ => ⟨he, 0, by rw [hw]; rfl⟩) (fun q os dk x _ => (hg x _).mono fun e w' ⟨he, hw⟩ => ⟨he, 0, by rw [hw]; rfl⟩) g4 (by simpa using hle2) (by simpa using g1)
    simp only [List.size_toArray] at hcall
    refine hcall.mono fun e w' ⟨he, q, hw⟩ => ?_
    have hl2 : ((zs.filter fun x => !p x) ++ List.replicate (zs.length - (zs.filter fun x => !p x).length) ByteArray.empty).length = zs.length := by simp; omega
    rw [Lib.putRow_eq_setCells Value.string w B base zs.toArray _ q g4 (by simpa using hl2)] at hw
    have b1 : RowKit.Below w.heap.size w (w.drewN q) := below_drewN (RowKit.Below.refl _ w) q
    obtain ⟨r2, k2⟩ := setCells_rel (base := base) (((zs.filter fun x => !p x) ++ List.replicate (zs.length - (zs.filter fun x => !p x).length) ByteArray.empty).map Value.string) _ H (w.drewN q) b 0 (hr.below b1) hb ho g2 (LR_strs ι _ _) (by rw [hz', List.length_map, List.length_map, hl2]; omega)
    rw [Nat.add_zero] at r2 k2
    rw [lset_all _ _ (by rw [hz', List.length_map, List.length_map, hl2])] at r2
    have r3 := r2.less (n := n) (L := flat (zs.filter fun x => !p x)) (upd_same _ _ _) (fun i v hi => by
      rw [flat_strs] at hi
      rw [List.map_append, List.getElem?_append_left (List.getElem?_eq_some_iff.1 hi).1]; exact hi) rfl
    rw [upd_upd] at r3
    subst hw
    exact ⟨_, _, ι, _, Bd, he, hK, Nat.le_refl _, r3, hres ((Keep.below b1).trans k2).rows _ hcl, (Keep.below b1).trans k2, Agr.refl _ _, (NI.refl _).upd _ _⟩
/-- A number of the program's, in its own block. -/
theorem Rel.cellg {A : Nat → Prop} {ι : Ren} {H : AH} {Bd : Nat} {w : World} (hr : Rel A ι H Bd w) {k : IntKind} {m : Int} {g : Nat} (hH : H g = some ⟨[.int k m], false⟩) : w.cell? ⟨g, 0, none⟩ = some (.int k m) := by
  obtain ⟨hι, cs, e, fr, hB, hsz⟩ := hr.glob g _ hH rfl
  rcases hr.blk g _ hH with ⟨hv, _⟩ | ⟨B, base, cs', e', fr', h1, h2, _, _, h5⟩
  · rw [hι] at hv; cases hv
  rw [hι] at h1; cases h1
  obtain ⟨v', g1, g2⟩ := h5 0 _ rfl
  cases g2
  rw [cell_of h2]
  simpa using g1
theorem cellg_fact {w : World} {k : IntKind} {g : Nat} {m : Int} (h : w.cell? ⟨g, 0, none⟩ = some (.int k m)) (hs : ∃ cs t, w.heap[g]? = some (.cells cs t) ∧ cs.size = 1) :
    ∃ cs e fr, w.heap[g]? = some (.cells cs e fr) ∧ cs.size = [Value.int k m].length ∧ ∀ (i : Nat) v, [Value.int k m][i]? = some v → ∃ v', cs[0 + i]? = some v' ∧ VR (⟨fun _ => none, fun B => B < w.heap.size, fun _ => none⟩ : Ren) w v v' := by
  obtain ⟨cs, t, h1, h2⟩ := hs
  refine ⟨cs, t, _, h1, h2, fun i v hv => ?_⟩
  rw [cell_of h1] at h
  cases i with
  | zero => simp at hv; subst hv; exact ⟨_, by simpa using h, .int _ _⟩
  | succ i => simp at hv
/-- strings.Split at a separator of one byte. -/
def SplitT (PT : AH → Prop) : Trans := fun args H Bd K => ∃ (s : ByteArray) (c : UInt8), args = [.string s, .string ⟨#[c]⟩] ∧ ((s.size < 4294967281 ∧ PT H) ∧ K (.slice (some ⟨Bd, 0, some 1⟩) (cutB s c).length ((cutB s c).length + 1)) (upd H Bd (some ⟨flat (cutB s c), true⟩)) (Bd + 1))
theorem SplitT_eq (PT : AH → Prop) (s : ByteArray) (c : UInt8) (H : AH) (Bd : Nat) (K : Value → AH → Nat → Prop) : SplitT PT [.string s, .string ⟨#[c]⟩] H Bd K = ((s.size < 4294967281 ∧ PT H) ∧ K (.slice (some ⟨Bd, 0, some 1⟩) (cutB s c).length ((cutB s c).length + 1)) (upd H Bd (some ⟨flat (cutB s c), true⟩)) (Bd + 1)) := by
  refine propext ⟨fun h => ?_, fun h => ⟨_, _, rfl, h⟩⟩
  obtain ⟨s', c', e, h⟩ := h
  simp only [List.cons.injEq, Value.string.injEq, ByteArray.mk.injEq, Array.mk.injEq, true_and, and_true] at e
  obtain ⟨rfl, rfl⟩ := e
  exact h
theorem split_ok {P : Program} {f : FuncId} {PT : AH → Prop} {t9 : TypeId} (hent : Enters P f) {G : Nat} (hPT : ∀ H, PT H → ∃ m, H G = some ⟨[.int .i64 m], false⟩)
    (h1 : ∀ (s sep : ByteArray) (m : Int) (w : World), s.size < 4294967281 → w.cell? ⟨G, 0, none⟩ = some (.int .i64 m) → 1 ≤ sep.size →
      Calls P f #[.string s, .string sep] w fun e w' => e = .returned (.slice (some ⟨w.heap.size, 0, none⟩) (Lib.countB s sep + 1) (Lib.countB s sep + 1)) ∧ w' = w.alloc (.cells ((Lib.splitB sep 0 (Lib.countB s sep) s).map Value.string).toArray t9)) :
    ∀ args H Bd K, SplitT PT args H Bd K → SCalls P f args H Bd K := by
  rintro args H Bd K ⟨s, c, rfl, ⟨h2, h3⟩, hK⟩
  obtain ⟨m, hm⟩ := hPT H h3
  rw [flat_strs] at hK
  refine SCalls.lib_new hent (k := 1) (cutB s c).length ((cutB s c).map Value.string) t9 (cutB_pos s c) (by simp) (fun A ι vs w hr hs => ⟨fun v hv => ?_, ?_⟩) hK
  · obtain ⟨y, _, rfl⟩ := List.mem_map.1 hv
    exact .string _
  · obtain ⟨v, u, rfl, hv, hu⟩ := hs.two
    obtain rfl := hv.str
    obtain rfl := hu.str
    have := h1 s ⟨#[c]⟩ m w h2 (hr.cellg hm) (Nat.le_refl 1)
    rw [← cutB_len, cut_split] at this
    exact this
theorem isE (x : ByteArray) : x.toList.isEmpty = (x.size == 0) := by
  obtain ⟨⟨l⟩⟩ := x
  have h : ∀ (bs : ByteArray) (i : Nat) (r : List UInt8), r ≠ [] → (ByteArray.toList.loop bs i r).isEmpty = false := by
    intro bs i r
    induction i, r using ByteArray.toList.loop.induct bs with
    | case1 i r hlt ih => intro hr; rw [ByteArray.toList.loop, if_pos hlt]; exact ih (by simp)
    | case2 i r hge => intro hr; rw [ByteArray.toList.loop, if_neg hge]; cases r <;> simp_all
  unfold ByteArray.toList
  rw [ByteArray.toList.loop]
  by_cases hl : l = []
  · subst hl; rw [if_neg (by show ¬ (0 < 0); omega)]; rfl
  · have : 0 < (ByteArray.mk ⟨l⟩).size := List.length_pos_iff.2 hl
    rw [if_pos this, h _ _ _ (by simp)]
    symm; rw [beq_eq_false_iff_ne]; omega
end Go.SC
