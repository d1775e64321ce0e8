/- Own lists given to functions that only read; own lists of numbers sorted and made compact. -/
import Derived.Test.YthhcemhignihlaaDoorSc8
import Derived.Lib.RowBridge
set_option linter.unusedSimpArgs false
set_option linter.unusedVariables false
namespace Go.SC
open Go Go.RowKit Go.Proofs Go.Sort

/-! ### own lists given away -/
/-- The rows of cells. -/
def rowsOf (k : Nat) : Nat → List Value → List Value
  | 0, _ => []
  | n + 1, cells => .agg (cells.take k).toArray :: rowsOf k n (cells.drop k)
theorem rowsOf_len (k : Nat) : ∀ (n : Nat) (cells : List Value), (rowsOf k n cells).length = n
  | 0, _ => rfl
  | n + 1, cells => by simp [rowsOf, rowsOf_len k n]
theorem rowsOf_get (k : Nat) : ∀ (n : Nat) (cells : List Value) (i : Nat), i < n → (rowsOf k n cells)[i]? = some (.agg ((cells.drop (i * k)).take k).toArray)
  | 0, _, _, h => by omega
  | n + 1, cells, 0, _ => by simp [rowsOf]
  | n + 1, cells, i + 1, h => by
    rw [rowsOf, List.getElem?_cons_succ, rowsOf_get k n _ i (by omega), List.drop_drop, Nat.succ_mul, Nat.add_comm k]
def giveR (b : Option Blk) (k len : Nat) (v : Value) : Value := match b with
  | some b => if b.own = true ∧ b.cells.length = len * k then .func (.yield k) #[] (rowsOf k len b.cells).toArray else v
  | none => v
/-- The value with an own list in place. -/
def giveV (H : AH) (v : Value) : Value := match v with
  | .slice (some ⟨n, 0, some k⟩) len _ => giveR (H n) k len v
  | v => v
/-- The memory without it. -/
def giveH (H : AH) (v : Value) : AH := match v with
  | .slice (some ⟨n, 0, some _⟩) _ _ => upd H n none
  | _ => H
def giveS (v : Value) (m : Nat) : Prop := match v with
  | .slice (some ⟨n, 0, some _⟩) _ _ => m = n
  | _ => False
theorem give_pub (H : AH) (v : Value) : Pub H (giveS v) v (giveV H v) := by
  unfold giveV
  split
  · rename_i n k len c
    unfold giveR
    split
    · rename_i b hb
      split
      · rename_i h
        refine .lst (b := b) rfl hb h.1 (by simp [rowsOf_len]) (by omega) (fun i x hx => ?_) (fun i j r v u h1 h2 h3 => ?_)
        · have hi : i < len := by have := (Array.getElem?_eq_some_iff.1 hx).1; simpa [rowsOf_len] using this
          have := rowsOf_get k len b.cells i hi
          rw [List.getElem?_toArray, this] at hx
          cases hx
          refine ⟨_, rfl, ?_⟩
          have : (i + 1) * k ≤ len * k := Nat.mul_le_mul_right _ hi
          rw [Nat.succ_mul] at this
          simp; omega
        · have hi : i < len := by have := (Array.getElem?_eq_some_iff.1 h1).1; simpa [rowsOf_len] using this
          have h4 := rowsOf_get k len b.cells i hi
          rw [List.getElem?_toArray, h4] at h1
          cases h1
          have hj : j < k := by
            have := (Array.getElem?_eq_some_iff.1 h3).1
            simp at this; omega
          rw [List.getElem?_toArray, List.getElem?_take, if_pos hj, List.getElem?_drop] at h3
          rw [Nat.zero_add, h3] at h2
          cases h2
          exact .same _
      · exact .same _
    · exact .same _
  · exact .same _
theorem give_le (H : AH) (v : Value) : Le (giveH H v) H := fun n b h => by
  unfold giveH at h
  split at h
  · rename_i m _ _ _
    by_cases e : n = m
    · subst e; rw [upd_same] at h; cases h
    · rw [upd_other _ _ e] at h; exact h
  · exact h
theorem give_not (H : AH) (v : Value) (n : Nat) (b : Blk) (h : giveH H v n = some b) : ¬ giveS v n := fun hs => by
  unfold giveH at h
  unfold giveS at hs
  split at h
  · simp only at hs; subst hs; rw [upd_same] at h; cases h
  · rename_i h2
    split at hs
    · rename_i m k len c; exact h2 _ _ _ _ rfl
    · exact hs
/-- The i-th argument is given away, if it is an own list. -/
def GiveT (i : Nat) (W : Trans) : Trans := fun args H Bd K => W (args.set i (giveV H (args.getD i undef))) (giveH H (args.getD i undef)) Bd K
theorem PubC.set {H : AH} {S : Nat → Prop} : ∀ (xs : List Value) (i : Nat) (u : Value), Pub H S (xs.getD i undef) u → PubC H S xs (xs.set i u)
  | [], i, u, _ => PubC.of _ _ rfl fun i v u h _ => by simp at h
  | x :: xs, i, u, h => PubC.of _ _ (by simp) fun j v w h1 h2 => by
    by_cases e : i = j
    · subst e
      have hi := (List.getElem?_eq_some_iff.1 h1).1
      rw [List.getElem?_set_self hi] at h2
      cases h2
      rw [List.getD_eq_getElem?_getD, h1] at h
      exact h
    · rw [List.getElem?_set_ne e, h1] at h2
      cases h2
      exact .same _
theorem GiveT_ok {P : Program} {f : FuncId} (i : Nat) {W : Trans} (h : ∀ args H Bd K, W args H Bd K → SCalls P f args H Bd K) : ∀ args H Bd K, GiveT i W args H Bd K → SCalls P f args H Bd K := fun args H Bd K hk =>
  give (giveS (args.getD i undef)) (PubC.set args i _ (give_pub H _)) (give_le H _) (give_not H _) (h _ _ _ _ hk)
@[go_sem] theorem giveV_slice (H : AH) (n k len c : Nat) : giveV H (.slice (some ⟨n, 0, some k⟩) len c) = giveR (H n) k len (.slice (some ⟨n, 0, some k⟩) len c) := (rfl)
@[go_sem] theorem giveV_lst {α : Type} [Enc α] (H : AH) (xs : List α) : giveV H (lst xs) = lst xs := (rfl)
@[go_sem] theorem giveH_slice (H : AH) (n k len c : Nat) : giveH H (.slice (some ⟨n, 0, some k⟩) len c) = upd H n none := (rfl)
@[go_sem] theorem giveH_lst {α : Type} [Enc α] (H : AH) (xs : List α) : giveH H (lst xs) = H := (rfl)
theorem rowsOf_flat {α : Type} [Enc α] : ∀ (xs : List α), rowsOf (Enc.k α) xs.length (flat xs) = (xs.map enc).map fun r => .agg r.toArray
  | [] => rfl
  | x :: xs => by
    rw [List.length_cons, rowsOf, flat_cons, List.take_append_of_le_length (by rw [enc_len]; exact Nat.le_refl _), List.take_of_length_le (by rw [enc_len]; exact Nat.le_refl _), List.drop_append, List.drop_eq_nil_of_le (by rw [enc_len]; exact Nat.le_refl _), enc_len, Nat.sub_self, List.drop_zero, List.nil_append, rowsOf_flat xs]
    rfl
theorem giveR_flat {α : Type} [Enc α] {k len : Nat} (xs : List α) (hk : Enc.k α = k) (hl : len = xs.length) (v : Value) : giveR (some ⟨flat xs, true⟩) k len v = lst xs := by
  subst hk; subst hl
  unfold giveR
  simp only
  rw [if_pos ⟨trivial, flat_len xs⟩, rowsOf_flat]
  rfl
@[go_sem] theorem giveR_F {α : Type} [Enc α] {k len : Nat} [hk : EncK α k] (xs : List α) (hl : len = xs.length) (v : Value) : giveR (some ⟨flat xs, true⟩) k len v = lst xs := giveR_flat xs hk.h hl v
@[go_sem] theorem giveR_int1 (a : Int) (v : Value) : giveR (some ⟨[.int .i64 a], true⟩) 1 1 v = lst [a] := giveR_flat (α := Int) [a] rfl rfl v
@[go_sem] theorem giveR_int2 (a b : Int) (v : Value) : giveR (some ⟨[.int .i64 a, .int .i64 b], true⟩) 1 2 v = lst [a, b] := giveR_flat (α := Int) [a, b] rfl rfl v
@[go_sem] theorem giveR_int3 (a b c : Int) (v : Value) : giveR (some ⟨[.int .i64 a, .int .i64 b, .int .i64 c], true⟩) 1 3 v = lst [a, b, c] := giveR_flat (α := Int) [a, b, c] rfl rfl v
@[go_sem] theorem giveR_int4 (a b c d : Int) (v : Value) : giveR (some ⟨[.int .i64 a, .int .i64 b, .int .i64 c, .int .i64 d], true⟩) 1 4 v = lst [a, b, c, d] := giveR_flat (α := Int) [a, b, c, d] rfl rfl v
@[go_sem] theorem giveR_lst1 {α : Type} [Enc α] (a : List α) (v : Value) : giveR (some ⟨[lst a], true⟩) 1 1 v = lst [a] := giveR_flat (α := List α) [a] rfl rfl v
@[go_sem] theorem giveR_lst2 {α : Type} [Enc α] (a b : List α) (v : Value) : giveR (some ⟨[lst a, lst b], true⟩) 1 2 v = lst [a, b] := giveR_flat (α := List α) [a, b] rfl rfl v
@[go_sem] theorem giveR_lst3 {α : Type} [Enc α] (a b c : List α) (v : Value) : giveR (some ⟨[lst a, lst b, lst c], true⟩) 1 3 v = lst [a, b, c] := giveR_flat (α := List α) [a, b, c] rfl rfl v

/-! ### own lists of numbers, changed in place -/
theorem setCells_rel {A : Nat → Prop} {ι : Ren} {Bd B base n : Nat} : ∀ (vs vs' : List Value) (H : AH) (w : World) (b : Blk) (o : Nat), Rel A ι H Bd w → H n = some b → b.own = true → ι n = some (.at B base) → LR ι w vs vs' → o + vs.length ≤ b.cells.length →
    Rel A ι (upd H n (some ⟨lset b.cells o vs, true⟩)) Bd (w.setCells B (base + o) vs') ∧ Keep A ι w ι (w.setCells B (base + o) vs')
  | [], [], H, w, b, o, hr, hb, ho, hι, _, _ => by
    refine ⟨hr.sub fun m c hm => ?_, Keep.refl A w⟩
    by_cases e : m = n
    · subst e
      rw [upd_same] at hm
      cases hm
      rw [hb]
      obtain ⟨cells, own⟩ := b
      simp only at ho
      subst ho
      rfl
    · rw [upd_other H _ e] at hm; exact hm
  | v :: vs, v' :: vs', H, w, b, o, hr, hb, ho, hι, hl, hle => by
    simp only [List.length_cons] at hle
    have hv : VR ι w v v' := hl.2 0 v v' rfl rfl
    obtain ⟨hr', hA, hnz⟩ := hr.set (off := o) hb ho hι hv
    have hk := Keep.setCell w (base + o) v' hA hnz
    have hl' : LR ι (w.setCell ⟨B, base + o, none⟩ v') vs vs' := by
      have : LR ι w vs vs' := ⟨by simpa using hl.1, fun j x x' h1 h2 => hl.2 (j + 1) x x' (by simpa using h1) (by simpa using h2)⟩
      exact this.mono (Ext.refl ι) hk.rows
    obtain ⟨h1, h2⟩ := setCells_rel vs vs' _ _ ⟨b.cells.set o v, true⟩ (o + 1) hr' (upd_same _ _ _) rfl hι hl' (by simp; omega)
    rw [upd_upd] at h1
    exact ⟨h1, hk.trans h2⟩
  | [], _ :: _, _, _, _, _, _, _, _, _, hl, _ => by have := hl.1; simp at this
  | _ :: _, [], _, _, _, _, _, _, _, _, hl, _ => by have := hl.1; simp at this

def intsOf : List Value → Option (List Int)
  | [] => some []
  | .int .i64 n :: l => (intsOf l).map (n :: ·)
  | _ => none
theorem intsOf_out : ∀ {l : List Value} {zs : List Int}, intsOf l = some zs → l = zs.map (Value.int .i64)
  | [], zs, h => by cases h; rfl
  | v :: l, zs, h => by
    unfold intsOf at h
    split at h
    · rename_i h1; cases h1
    · rename_i n l' h1
      cases h1
      obtain ⟨ys, h2, rfl⟩ := Option.map_eq_some_iff.1 h
      rw [intsOf_out h2]; rfl
    · cases h
theorem flat_ints : ∀ (zs : List Int), flat zs = zs.map (Value.int .i64)
  | [] => rfl
  | z :: zs => by rw [flat_cons, flat_ints zs]; rfl
@[go_sem] theorem intsOf_flat (zs : List Int) : intsOf (flat zs) = some zs := by
  rw [flat_ints]
  induction zs with
  | nil => rfl
  | cons z zs ih => simp [intsOf, ih]
theorem LR_ints (ι : Ren) (w : World) (zs : List Int) : LR ι w (zs.map (Value.int .i64)) (zs.map (Value.int .i64)) := LR.plain (by simp [plainV])
theorem own_open {A : Nat → Prop} {ι : Ren} {H : AH} {Bd : Nat} {w : World} (hr : Rel A ι H Bd w) {n l c : Nat} {b : Blk} (hb : H n = some b) (ho : b.own = true) {v' : Value} (hv : VR ι w (.slice (some ⟨n, 0, some 1⟩) l c) v') {zs : List Int} (hz : b.cells = zs.map (Value.int .i64)) (hl : l = zs.length) :
    (l = 0 ∧ ∃ A' c', v' = .slice A' 0 c') ∨ ∃ B base c', v' = .slice (some ⟨B, base, none⟩) l c' ∧ l ≤ c' ∧ ι n = some (.at B base) ∧ B < w.heap.size ∧ Holds (Value.int .i64) w B base zs.toArray := by
  cases hv with
  | sl h1 h2 h3 h4 h5 =>
    rename_i c' A'
    rcases h5 with h5 | ⟨B, base, size, g1, rfl, g3, g4⟩
    · exact .inl ⟨by omega, A', c', by rw [show l = 0 by omega]⟩
    · refine .inr ⟨B, base, c', rfl, h2, g1, hr.lt hb g1, fun j hj => ?_⟩
      rcases hr.blk n b hb with ⟨hv, _⟩ | ⟨B1, base1, cs, e, fr, q1, q2, q3, q4, q5⟩
      · rw [g1] at hv; cases hv
      · rw [g1] at q1; cases q1
        have hj' : j < zs.length := by simpa using hj
        have hc : b.cells[j]? = some (.int .i64 zs[j]) := by rw [hz]; simp [hj']
        obtain ⟨u, u1, u2⟩ := q5 j _ hc
        cases u2
        have hlt := (Array.getElem?_eq_some_iff.1 u1).1
        refine ⟨?_, ?_⟩
        · show w.cell? ⟨B, base + 0 + j, none⟩ = _
          rw [Nat.add_zero, cell_of q2, u1, getElem!_pos _ j hj]; simp
        · show w.frozen? ⟨B, base + 0 + j, none⟩ = _
          rw [Nat.add_zero]
          exact frozen_of q2 (q3 ho).2 hlt
def sortI (zs : List Int) : List Int := zs.mergeSort fun x y => decide (x ≤ y)
def SortT : Trans := fun args H Bd K => ∃ (n l c : Nat), args = [.slice (some ⟨n, 0, some 1⟩) l c] ∧ Yld (H n) fun b => Yld (intsOf b.cells) fun zs => (b.own = true ∧ l = zs.length ∧ zs.length ≤ 1000000) ∧ K undef (upd H n (some ⟨flat (sortI zs), true⟩)) Bd
@[go_sem ↓] theorem SortT_eq (n l c : Nat) (H : AH) (Bd : Nat) (K : Value → AH → Nat → Prop) : SortT [.slice (some ⟨n, 0, some 1⟩) l c] H Bd K = (Yld (H n) fun b => Yld (intsOf b.cells) fun zs => (b.own = true ∧ l = zs.length ∧ zs.length ≤ 1000000) ∧ K undef (upd H n (some ⟨flat (sortI zs), true⟩)) Bd) := by
  refine propext ⟨fun h => ?_, fun h => ⟨_, _, _, rfl, h⟩⟩
  obtain ⟨n', l', c', e, h⟩ := h
  simp only [List.cons.injEq, Value.slice.injEq, Option.some.injEq, Addr.mk.injEq, true_and, and_true] at e
  obtain ⟨rfl, rfl, rfl⟩ := e
  exact h
theorem lset_all (cells vs : List Value) (h : vs.length = cells.length) : lset cells 0 vs = vs := by
  refine List.ext_getElem? fun j => ?_
  rcases Nat.lt_or_ge j vs.length with hj | hj
  · rw [lset_get vs cells 0 j (by omega), if_neg (by omega), if_pos (by omega), Nat.sub_zero]
  · rw [List.getElem?_eq_none (by rw [lset_length]; omega), List.getElem?_eq_none hj]
theorem put_rel {A : Nat → Prop} {ι : Ren} {H : AH} {Bd : Nat} {w : World} (hr : Rel A ι H Bd w) {n B base : Nat} {b : Blk} (hb : H n = some b) (ho : b.own = true) (hι : ι n = some (.at B base)) {zs ys : List Int} (hz : b.cells = zs.map (Value.int .i64)) (hH : Holds (Value.int .i64) w B base zs.toArray) (hl : ys.length = zs.length) (q : Nat) (os : Array Obj) :
    Rel A ι (upd H n (some ⟨flat ys, true⟩)) Bd (Sort.grow (putRow (Value.int .i64) (Sort.ahead w q) B base ys.toArray) os) ∧ Keep A ι w ι (Sort.grow (putRow (Value.int .i64) (Sort.ahead w q) B base ys.toArray) os) := by
  rw [Lib.putRow_eq_setCells (Value.int .i64) w B base zs.toArray ys q hH (by simpa using hl)]
  have h1 : Below w.heap.size w (w.drewN q) := below_drewN (Below.refl _ w) q
  have r1 := hr.below h1
  have k1 : Keep A ι w ι (w.drewN q) := Keep.below h1
  obtain ⟨r2, k2⟩ := setCells_rel (base := base) (ys.map (Value.int .i64)) (ys.map (Value.int .i64)) H (w.drewN q) b 0 r1 hb ho hι (LR_ints ι _ ys) (by rw [hz]; simp; omega)
  rw [Nat.add_zero] at r2 k2
  rw [lset_all _ _ (by rw [hz]; simp [hl]), ← flat_ints] at r2
  rw [← flat_ints] at k2 ⊢
  have h3 := below_grow (w := (w.drewN q).setCells B base (flat ys)) 0 os
  exact ⟨r2.below h3, (k1.trans k2).trans (Keep.below h3)⟩
theorem sort_ok {P : Program} {f : FuncId} (hent : Enters P f)
    (h1 : ∀ (blk off cap : Nat) (zs : List Int) (w : World), Holds (Value.int .i64) w blk off zs.toArray → blk < w.heap.size → zs.length < 4611686018427387904 →
      Calls P f #[.slice (some ⟨blk, off, none⟩) zs.length cap] w fun e w' => e = .returned (.tuple #[]) ∧ ∃ n os, w' = Sort.grow (putRow (Value.int .i64) (Sort.ahead w n) blk off (zs.mergeSort fun x y => decide (x ≤ y)).toArray) os)
    (h2 : ∀ (p : Option Addr) (cap : Nat) (w : World), Calls P f #[.slice p 0 cap] w fun e w' => e = .returned (.tuple #[]) ∧ w' = w) : ∀ args H Bd K, SortT args H Bd K → SCalls P f args H Bd K := by
  rintro args H Bd K ⟨n, l, c, rfl, b, hb, zs, hz, ⟨ho, hl, hle⟩, hK⟩
  refine ⟨hent, fun A ι vs w hr hs => ?_⟩
  obtain ⟨v, rfl, hv⟩ := hs.one
  have hz' := intsOf_out hz
  have hu : ∀ ι w, VR ι w undef (.tuple #[]) := fun ι w => .tuple rfl fun i v v' h _ => by simp at h
  rcases own_open hr hb ho hv hz' hl with ⟨h0, A', c', rfl⟩ | ⟨B, base, c', rfl, g1, g2, g3, g4⟩
  · have hzs : zs = [] := List.length_eq_zero_iff.1 (by omega)
    refine (h2 A' c' w).mono fun e w' ⟨he, hw⟩ => ?_
    subst hw
    refine ⟨_, undef, ι, _, Bd, he, hK, Nat.le_refl _, ?_, hu _ _, Keep.refl A _, Agr.refl _ _, (NI.refl _).upd _ _⟩
    refine hr.sub fun m x hm => ?_
    by_cases e : m = n
    · subst e
      rw [upd_same] at hm
      cases hm
      rw [hb]
      obtain ⟨cells, own⟩ := b
      simp only at ho hz'
      subst ho; subst hzs
      rw [hz']
      simp [sortI, flat]
    · rw [upd_other H _ e] at hm; exact hm
  · subst hl
    refine (h1 B base c' zs w g4 g3 (by omega)).mono fun e w' ⟨he, q, os, hw⟩ => ?_
    obtain ⟨r, k⟩ := put_rel hr hb ho g2 hz' g4 (ys := sortI zs) (by simp [sortI]) q os
    subst hw
    exact ⟨_, undef, ι, _, Bd, he, hK, Nat.le_refl _, r, hu _ _, k, Agr.refl _ _, (NI.refl _).upd _ _⟩

def CompT : Trans := fun args H Bd K => ∃ (n l c : Nat), args = [.slice (some ⟨n, 0, some 1⟩) l c] ∧ Yld (H n) fun b => Yld (intsOf b.cells) fun zs => (b.own = true ∧ l = zs.length ∧ zs.length ≤ 1000000) ∧
  K (.slice (some ⟨n, 0, some 1⟩) (Lib.compact zs).length c) (upd H n (some ⟨flat (Lib.compact zs ++ List.replicate (zs.length - (Lib.compact zs).length) 0), true⟩)) Bd
@[go_sem ↓] theorem CompT_eq (n l c : Nat) (H : AH) (Bd : Nat) (K : Value → AH → Nat → Prop) : CompT [.slice (some ⟨n, 0, some 1⟩) l c] H Bd K = (Yld (H n) fun b => Yld (intsOf b.cells) fun zs => (b.own = true ∧ l = zs.length ∧ zs.length ≤ 1000000) ∧
  K (.slice (some ⟨n, 0, some 1⟩) (Lib.compact zs).length c) (upd H n (some ⟨flat (Lib.compact zs ++ List.replicate (zs.length - (Lib.compact zs).length) 0), true⟩)) Bd) := by
  refine propext ⟨fun h => ?_, fun h => ⟨_, _, _, rfl, h⟩⟩
  obtain ⟨n', l', c', e, h⟩ := h
  simp only [List.cons.injEq, Value.slice.injEq, Option.some.injEq, Addr.mk.injEq, true_and, and_true] at e
  obtain ⟨rfl, rfl, rfl⟩ := e
  exact h
theorem compact_le (zs : List Int) : (Lib.compact zs).length ≤ zs.length := by
  unfold Lib.compact Lib.compactUpTo
  rw [List.length_map]
  exact Nat.le_trans (List.length_filter_le _ _) (by simp)
theorem compact_nil : Lib.compact ([] : List Int) = [] := rfl
def reLen (v : Value) (m : Nat) : Value := match v with
  | .slice a _ c' => .slice a m c'
  | v => v
theorem comp_ok {P : Program} {f : FuncId} (hent : Enters P f)
    (h1 : ∀ (blk off cap : Nat) (zs : List Int) (w : World), Holds (Value.int .i64) w blk off zs.toArray → zs.length ≤ 9223372036854775807 → zs.length ≤ cap →
      Calls P f #[.slice (some ⟨blk, off, none⟩) zs.length cap] w fun e w' => e = .returned (.slice (some ⟨blk, off, none⟩) (Lib.compact zs).length cap) ∧ ∃ q, w' = putRow (Value.int .i64) (Sort.ahead w q) blk off (Lib.compact zs ++ List.replicate (zs.length - (Lib.compact zs).length) 0).toArray)
    (h2 : ∀ (p : Option Addr) (cap : Nat) (w : World), Calls P f #[.slice p 0 cap] w fun e w' => e = .returned (.slice p 0 cap) ∧ w' = w) : ∀ args H Bd K, CompT args H Bd K → SCalls P f args H Bd K := by
  rintro args H Bd K ⟨n, l, c, rfl, b, hb, zs, hz, ⟨ho, hl, hle⟩, hK⟩
  refine ⟨hent, fun A ι vs w hr hs => ?_⟩
  obtain ⟨v, rfl, hv⟩ := hs.one
  have hz' := intsOf_out hz
  have hcl := compact_le zs
  have hres : ∀ {w'} (hf : Fro ι w w') (m : Nat), m ≤ l → VR ι w' (.slice (some ⟨n, 0, some 1⟩) m c) (reLen v m) := fun hf m hm => by
    cases hv with
    | sl g1 g2 g3 g4 g5 =>
      refine .sl g1 (by omega) g3 g4 (g5.imp id ?_)
      rintro ⟨B, base, size, q1, q2, q3, q4⟩
      exact ⟨B, base, size, q1, q2, q3.mono hf.rows, q4⟩
  rcases own_open hr hb ho hv hz' hl with ⟨h0, A', c', rfl⟩ | ⟨B, base, c', rfl, g1, g2, g3, g4⟩
  · have hzs : zs = [] := List.length_eq_zero_iff.1 (by omega)
    subst hzs
    refine (h2 A' c' w).mono fun e w' ⟨he, hw⟩ => ?_
    subst hw
    have hv2 := hres (Fro.refl ι _) 0 (Nat.zero_le _)
    refine ⟨_, _, ι, _, Bd, he, hK, Nat.le_refl _, ?_, hv2, Keep.refl A _, Agr.refl _ _, (NI.refl _).upd _ _⟩
    refine hr.sub fun m x hm => ?_
    by_cases e : m = n
    · subst e
      rw [upd_same] at hm
      cases hm
      rw [hb]
      obtain ⟨cells, own⟩ := b
      simp only at ho hz'
      subst ho
      rw [hz']
      simp [compact_nil, flat]
    · rw [upd_other H _ e] at hm; exact hm
  · subst hl
    refine (h1 B base c' zs w g4 (by omega) g1).mono fun e w' ⟨he, q, hw⟩ => ?_
    obtain ⟨r, k⟩ := put_rel hr hb ho g2 hz' g4 (ys := Lib.compact zs ++ List.replicate (zs.length - (Lib.compact zs).length) 0) (by simp; omega) q #[]
    have hg : Sort.grow (putRow (Value.int .i64) (Sort.ahead w q) B base (Lib.compact zs ++ List.replicate (zs.length - (Lib.compact zs).length) 0).toArray) #[] = w' := by
      subst hw; unfold Sort.grow; rw [Array.append_empty]
    rw [hg] at r k
    exact ⟨_, _, ι, _, Bd, he, hK, Nat.le_refl _, r, hres k.rows _ hcl, k, Agr.refl _ _, (NI.refl _).upd _ _⟩
/-- What slices.Sort and slices.Compact leave. -/
def uniqI (zs : List Int) : List Int := Lib.compact (sortI zs)
theorem keeps_first (d : Array Int) : ∀ (j : Nat), j < d.size → ∃ i, i ≤ j ∧ Lib.keeps d i = true ∧ d[i]! = d[j]!
  | 0, _ => ⟨0, Nat.le_refl _, Lib.keeps_lt_one d 0 (by omega), rfl⟩
  | j + 1, h => by
    by_cases hk : Lib.keeps d (j + 1) = true
    · exact ⟨j + 1, Nat.le_refl _, hk, rfl⟩
    · obtain ⟨i, h1, h2, h3⟩ := keeps_first d j (by omega)
      refine ⟨i, by omega, h2, ?_⟩
      rw [h3]
      unfold Lib.keeps at hk
      simp at hk
      first | exact hk.2.symm | exact hk.symm | exact hk | exact hk.2
theorem mem_compact (zs : List Int) (x : Int) : x ∈ Lib.compact zs ↔ x ∈ zs := by
  unfold Lib.compact Lib.compactUpTo
  constructor
  · intro h
    obtain ⟨i, hi, rfl⟩ := List.mem_map.1 h
    have := List.mem_range.1 (List.mem_filter.1 hi).1
    rw [getElem!_pos _ i (by simpa using this)]
    simp
  · intro h
    obtain ⟨j, hj, rfl⟩ := List.getElem_of_mem h
    obtain ⟨i, h1, h2, h3⟩ := keeps_first zs.toArray j (by simpa using hj)
    refine List.mem_map.2 ⟨i, List.mem_filter.2 ⟨List.mem_range.2 (by omega), h2⟩, ?_⟩
    rw [h3, getElem!_pos _ j (by simpa using hj)]; simp
theorem mem_uniqI (zs : List Int) (x : Int) : x ∈ uniqI zs ↔ x ∈ zs := by
  unfold uniqI
  rw [mem_compact, sortI, List.mem_mergeSort]

/-! ### bytes, for the library's own comparison -/
theorem loadBytes_run {P : Program} {w : World} {B : Nat} {cs : Array Value} {e : TypeId} {fr : Nat × Nat} (hB : w.heap[B]? = some (.cells cs e fr)) :
    ∀ (xs : List UInt8) (o : Nat) (acc : ByteArray), (∀ (j : Nat) x, xs[j]? = some x → cs[o + j]? = some (byteV x)) → (Extern.Bytes.loadBytes ⟨B, o, none⟩ xs.length acc).run P w = .ok ⟨(acc.data.toList ++ xs).toArray⟩ w
  | [], o, acc, _ => by
    show Result.ok acc w = _
    congr 1
    simp
  | x :: xs, o, acc, h => by
    have h0 := h 0 x rfl
    rw [Nat.add_zero] at h0
    have ih := loadBytes_run (P := P) hB xs (o + 1) (acc.push x) fun j y hy => by rw [Nat.add_assoc, Nat.add_comm 1 j]; exact h (j + 1) y (by simpa using hy)
    rw [List.length_cons, Extern.Bytes.loadBytes]
    have hld : (load ⟨B, o, none⟩).run P w = .ok (byteV x) w := by
      rw [run_load P w _ .plain, cell_of hB, h0]
    simp only [Sem.run_bind, hld, Result.andThen_ok, byteV, Int.toNat_natCast]
    rw [show (x.toNat).toUInt8 = x from UInt8.ofNat_toNat, add_addr, ih]
    congr 2
    simp
theorem vr_u8s {ι : Ren} {P : Program} {w : World} {xs : List UInt8} {v : Value} (h : VR ι w (lst xs) v) : (Extern.Bytes.bytesOf v).run P w = .ok ⟨xs.toArray⟩ w := by
  generalize hy : lst xs = y at h
  unfold lst LST at hy
  cases h with
  | lst0 =>
    simp only [Value.func.injEq, true_and] at hy
    have := congrArg Array.size hy.2
    simp at this
    subst this
    rename_i k A c
    cases A <;> rfl
  | lst hfz hB hl hsz hr hc =>
    rename_i k rows B base c' cs e fr
    simp only [Value.func.injEq, true_and] at hy
    obtain ⟨hk, rfl⟩ := hy
    have hk : 1 = k := by injection hk
    subst hk
    have hs : (((xs.map enc).map fun r => Value.agg r.toArray).toArray).size = xs.length := by simp
    rw [hs]
    show (Extern.Bytes.loadBytes ⟨B, base, none⟩ xs.length .empty).run P w = _
    rw [loadBytes_run hB xs base .empty fun j x hj => ?_]
    · congr 2
    · have hlt := (List.getElem?_eq_some_iff.1 hj).1
      have h1 : ((xs.map enc).map fun r => Value.agg r.toArray).toArray[j]? = some (.agg #[byteV x]) := by
        simp [hj]; rfl
      simp only [List.size_toArray, List.length_map] at hl
      have h2 : base + j < cs.size := by omega
      have h3 := hc j 0 #[byteV x] (byteV x) cs[base + j] h1 (by simp) (by simp [h2])
      generalize hg : cs[base + j] = g at h3
      cases h3
      simp [h2, hg, byteV]
  | _ => cases hy
theorem run_cmp {ι : Ren} {P : Program} {w : World} {xs ys : List UInt8} {v u : Value} (hv : VR ι w (lst xs) v) (hu : VR ι w (lst ys) u) :
    (Extern.BytealgCompare.compare #[v, u]).run P w = .ok (.int .i64 (Lib.compareBytes xs ys)) w := by
  change Sem.run P (do pure (goInt (Extern.BytealgCompare.cmp (← Extern.Bytes.bytesOf v) (← Extern.Bytes.bytesOf u)))) w = _
  simp only [Sem.run_bind, Sem.run_pure, vr_u8s (P := P) hv, vr_u8s (P := P) hu, Result.andThen_ok]
  rw [Lib.cmp_eq]
  rfl

/-! ### the comparer -/
/-- A map whose entries all stand in a table. -/
structure Memo where
  rows : Array Value
instance : Enc Memo := ⟨1, fun m => [.func (.methodOf 0 "") #[] m.rows], fun _ => rfl, by decide, fun x Bd v h => by simp at h; subst h; exact .mp, fun _ => rfl, fun x y h => by cases x; cases y; simpa using h⟩
structure GComparer where
  s : GSignature
  order : List Int
  a : List Int
  b : List Int
  known : Memo
instance : Enc GComparer := Enc.of (fun x => (x.s, x.order, x.a, x.b, x.known)) fun x y h => by cases x; cases y; simp_all
@[push_cast] theorem k_GComparer : Enc.k GComparer = 5 := (rfl)
instance : EncK GComparer 5 := ⟨rfl⟩
@[push_cast] theorem enc_GComparer (x : GComparer) : enc x = [lst x.s.symbols, lst x.order, lst x.a, lst x.b, .func (.methodOf 0 "") #[] x.known.rows] := (rfl)
/-- The table of all answers, 32 a row. -/
def gtRows (s : GSignature) (order a b : List Int) : Array Value := ((List.range 1024).map fun m => Value.bool (gt s order a b (m / 32) (m % 32))).toArray
theorem gtRows_get (s : GSignature) (order a b : List Int) {i j : Nat} (hi : i < 32) (hj : j < 32) : (gtRows s order a b)[i * 32 + j]? = some (.bool (gt s order a b i j)) := by
  unfold gtRows
  rw [List.getElem?_toArray, List.getElem?_map, List.getElem?_range (by omega)]
  simp only [Option.map_some]
  rw [show (i * 32 + j) / 32 = i by omega, show (i * 32 + j) % 32 = j by omega]
class TyM (P : Program) (t : TypeId) : Prop where
  h : mapTy P t = true
theorem look_gt {P : Program} {t : TypeId} [h : TyM P t] (s : GSignature) (order a b : List Int) {i j : Nat} (hi : i < 32) (hj : j < 32) :
    alookup P t (.func (.methodOf 0 "") #[] (gtRows s order a b)) (.agg [.int .i64 i, .int .i64 j].toArray) = some (gt s order a b i j) := alookup_rule h.h hj (gtRows_get s order a b hi hj)
theorem mset_gt {P : Program} {t : TypeId} [h : TyM P t] (s : GSignature) (order a b : List Int) {i j : Nat} (hi : i < 32) (hj : j < 32) :
    amapset P t (.func (.methodOf 0 "") #[] (gtRows s order a b)) (.agg [.int .i64 i, .int .i64 j].toArray) (.bool (gt s order a b i j)) = true := by
  unfold amapset
  rw [look_gt s order a b hi hj]
  simp
structure CmpOK (c : GComparer) : Prop where
  s1 : sm c.s
  s2 : sm c.order
  s3 : sm c.a
  s4 : sm c.b
  sig : sigF c.s = 0
  ord : ordG c.s c.order = 0
  ta : TermOK c.s c.a
  tb : TermOK c.s c.b
  rows : c.known.rows = gtRows c.s c.order c.a c.b

/-! ### variables -/
def vars1 (t : List Int) : List Int := (t.filter fun n => decide (n < 0)).map fun n => -1 - n
def varsL (ts : List (List Int)) : List Int := ts.flatMap vars1
theorem varsL_nil : varsL [] = [] := rfl
theorem vars1_nil : vars1 [] = [] := rfl
theorem vars1_take {t : List Int} {i : Nat} (h : i < t.length) : vars1 (t.take (i + 1)) = vars1 (t.take i) ++ if t[i] < 0 then [-1 - t[i]] else [] := by
  unfold vars1
  rw [List.take_succ_eq_append_getElem h, List.filter_append, List.map_append]
  by_cases hn : t[i] < 0
  · simp [hn]
  · simp [hn]
theorem varsL_take {ts : List (List Int)} {i : Nat} (h : i < ts.length) : varsL (ts.take (i + 1)) = varsL (ts.take i) ++ vars1 ts[i] := by
  unfold varsL
  rw [List.take_succ_eq_append_getElem h, List.flatMap_append]; simp
theorem vars1_len (t : List Int) : (vars1 t).length ≤ t.length := by
  unfold vars1; rw [List.length_map]; exact List.length_filter_le _ _
theorem varsL_len {ts : List (List Int)} (h : ∀ t ∈ ts, t.length ≤ 24) : (varsL ts).length ≤ 24 * ts.length := by
  induction ts with
  | nil => simp [varsL]
  | cons t ts ih =>
    have h1 := vars1_len t
    have h2 := h t (by simp)
    have h3 := ih fun x hx => h x (by simp [hx])
    unfold varsL at h3 ⊢
    rw [List.flatMap_cons, List.length_append, List.length_cons]
    omega
theorem mem_vars1 {t : List Int} {v : Int} : v ∈ vars1 t ↔ ∃ n ∈ t, n < 0 ∧ v = -1 - n := by
  unfold vars1
  simp only [List.mem_map, List.mem_filter, decide_eq_true_eq]
  constructor
  · rintro ⟨n, ⟨h1, h2⟩, rfl⟩; exact ⟨n, h1, h2, rfl⟩
  · rintro ⟨n, h1, h2, rfl⟩; exact ⟨n, ⟨h1, h2⟩, rfl⟩
theorem mem_varsL {ts : List (List Int)} {v : Int} : v ∈ varsL ts ↔ ∃ t ∈ ts, v ∈ vars1 t := by unfold varsL; simp
theorem sort_len (zs : List Int) : (sortI zs).length = zs.length := by simp [sortI]
theorem uniq_len (zs : List Int) : (uniqI zs).length ≤ zs.length := by have := compact_le (sortI zs); rw [sort_len] at this; exact this
theorem vars_low (l r : List Int) : (uniqI (varsL [l, r])).any (fun v => decide (6 ≤ v)) = !(lowB l && lowB r) := by
  rw [Bool.eq_iff_iff, List.any_eq_true]
  simp only [mem_uniqI, mem_varsL, decide_eq_true_eq, Bool.not_eq_true', Bool.and_eq_false_iff]
  have hl : ∀ t : List Int, lowB t = false ↔ ∃ n ∈ t, n < -6 := fun t => by
    unfold lowB
    rw [List.all_eq_false]
    constructor
    · rintro ⟨n, h1, h2⟩; exact ⟨n, h1, by simpa using h2⟩
    · rintro ⟨n, h1, h2⟩; exact ⟨n, h1, by simpa using h2⟩
  rw [hl, hl]
  constructor
  · rintro ⟨v, ⟨t, ht, hv⟩, h6⟩
    obtain ⟨n, h1, h2, rfl⟩ := mem_vars1.1 hv
    simp only [List.mem_cons, List.not_mem_nil, or_false] at ht
    rcases ht with rfl | rfl
    · exact .inl ⟨n, h1, by omega⟩
    · exact .inr ⟨n, h1, by omega⟩
  · rintro (⟨n, h1, h2⟩ | ⟨n, h1, h2⟩)
    · exact ⟨-1 - n, ⟨l, by simp, mem_vars1.2 ⟨n, h1, by omega, rfl⟩⟩, by omega⟩
    · exact ⟨-1 - n, ⟨r, by simp, mem_vars1.2 ⟨n, h1, by omega, rfl⟩⟩, by omega⟩
theorem vars_rule (l r : List Int) : (!(uniqI (varsL [r])).any fun v => !(uniqI (varsL [l])).any fun x => decide (v = x)) = r.all (varOK ⟨l, r⟩) := by
  rw [Bool.eq_iff_iff]
  simp only [Bool.not_eq_true', List.any_eq_false, List.all_eq_true, mem_uniqI, mem_varsL, List.mem_singleton, exists_eq_left, Bool.not_eq_false', List.any_eq_true, decide_eq_true_eq, Bool.not_not, varOK]
  constructor
  · intro h n hn
    by_cases h0 : 0 ≤ n
    · exact .inl h0
    · have := h (-1 - n) (mem_vars1.2 ⟨n, hn, by omega, rfl⟩)
      have this2 : -1 - n ∈ vars1 l := Classical.byContradiction fun hc => this fun x hx e => hc (e ▸ hx)
      obtain ⟨m, h1, h2, h3⟩ := mem_vars1.1 this2
      obtain rfl : m = n := by omega
      exact .inr (by have := List.count_pos_iff.2 h1; omega)
  · intro h v hv
    obtain ⟨n, h1, h2, rfl⟩ := mem_vars1.1 hv
    rcases h n h1 with h3 | h3
    · omega
    · have h4 := List.count_pos_iff.1 (Nat.pos_of_ne_zero h3)
      exact fun hc => hc _ (mem_vars1.2 ⟨n, h4, h2, rfl⟩) rfl
/-! ### codes with the signature's -/
def eqnF (s : GSignature) (e : GEquation) : Int := if sigF s ≠ 0 then sigF s else eqnG s e
def eqsF (s : GSignature) (l : List GEquation) : Int := if sigF s ≠ 0 then sigF s else eqsG s l
def rulesF (s : GSignature) (l : List GEquation) : Int := if sigF s ≠ 0 then sigF s else rulesG s l
def gfault (s : GSignature) (ts : List (List Int)) : Int := if firstF (termF s) ts ≠ 0 then firstF (termF s) ts else if ts.any (fun t => t.any fun n => decide (n < 0)) = true then 1 else 0
theorem gfault_one {s : GSignature} (h : sigF s = 0) (t : List Int) : gfault s [t] = groundG s t := by
  have hf : firstF (termF s) [t] = termG s t := by
    have ht : termF s t = termG s t := by unfold termF; rw [if_neg (by simp [h])]
    by_cases h1 : termG s t = 0
    · rw [firstF_all fun x hx => by rw [List.mem_singleton.1 hx, ht, h1], h1]
    · rw [firstF_hit (l := [t]) (i := 0) (x := t) rfl (fun j hj => by omega) (by rw [ht]; exact h1), ht]
  unfold gfault groundG
  rw [hf]
  have h2 : ([t].any fun t => t.any fun n => decide (n < 0)) = !(t.all fun n => decide (0 ≤ n)) := by
    rw [List.any_cons, List.any_nil, Bool.or_false, Bool.eq_iff_iff]
    simp only [List.any_eq_true, Bool.not_eq_true', List.all_eq_false, decide_eq_true_eq]
    constructor
    · rintro ⟨n, g1, g2⟩; exact ⟨n, g1, by omega⟩
    · rintro ⟨n, g1, g2⟩; exact ⟨n, g1, by omega⟩
  rw [h2]
  cases (t.all fun n => decide (0 ≤ n)) <;> simp
/-! ### nil slices in data -/
def nilC (k : Nat) (v : Value) : Value := match v with
  | .slice none 0 0 => .func (.yield k) #[] #[]
  | v => v
def nilL : List Nat → List Value → List Value
  | k :: ks, v :: vs => nilC k v :: nilL ks vs
  | _, vs => vs
def nilAgg (ks : List Nat) (v : Value) : Value := match v with
  | .agg cs => .agg (nilL ks cs.toList).toArray
  | v => v
theorem nilC_pub (H : AH) (S : Nat → Prop) (k : Nat) (v : Value) : Pub H S v (nilC k v) := by
  unfold nilC; split
  · exact .empty
  · exact .same _
theorem nilL_pub (H : AH) (S : Nat → Prop) : ∀ (ks : List Nat) (vs : List Value), (nilL ks vs).length = vs.length ∧ ∀ (i : Nat) v u, vs[i]? = some v → (nilL ks vs)[i]? = some u → Pub H S v u
  | [], vs => ⟨by simp [nilL], fun i v u h1 h2 => by simp [nilL] at h2; rw [h1] at h2; cases h2; exact .same _⟩
  | k :: ks, [] => ⟨rfl, fun i v u h1 _ => by simp at h1⟩
  | k :: ks, w :: vs => by
    obtain ⟨h1, h2⟩ := nilL_pub H S ks vs
    refine ⟨by simp [nilL, h1], fun i v u g1 g2 => ?_⟩
    cases i with
    | zero => simp [nilL] at g1 g2; subst g1; subst g2; exact nilC_pub H S k _
    | succ i => simp only [nilL, List.getElem?_cons_succ] at g1 g2; exact h2 i v u g1 g2
theorem nilAgg_pub (H : AH) (S : Nat → Prop) (ks : List Nat) (v : Value) : Pub H S v (nilAgg ks v) := by
  unfold nilAgg; split
  · rename_i cs
    obtain ⟨h1, h2⟩ := nilL_pub H S ks cs.toList
    refine .agg (by simp [h1]) fun i v u g1 g2 => ?_
    exact h2 i v u (by simpa using g1) (by simpa using g2)
  · exact .same _
def NilT (i : Nat) (ks : List Nat) (W : Trans) : Trans := fun args H Bd K => W (args.set i (nilAgg ks (args.getD i undef))) H Bd K
theorem NilT_ok {P : Program} {f : FuncId} (i : Nat) (ks : List Nat) {W : Trans} (h : ∀ args H Bd K, W args H Bd K → SCalls P f args H Bd K) : ∀ args H Bd K, NilT i ks W args H Bd K → SCalls P f args H Bd K := fun args H Bd K hk =>
  give (fun _ => False) (PubC.set args i _ (nilAgg_pub H _ ks _)) (Le.refl _) (fun _ _ _ h => h) (h _ _ _ _ hk)
@[go_sem] theorem nilAgg_agg (ks : List Nat) (l : List Value) : nilAgg ks (.agg l.toArray) = .agg (nilL ks l).toArray := (rfl)
@[go_sem] theorem nilL_cons (k : Nat) (ks : List Nat) (v : Value) (vs : List Value) : nilL (k :: ks) (v :: vs) = nilC k v :: nilL ks vs := (rfl)
@[go_sem] theorem nilL_nil (vs : List Value) : nilL [] vs = vs := by simp [nilL]
@[go_sem] theorem nilL_end (ks : List Nat) : nilL ks [] = [] := by cases ks <;> rfl
@[go_sem] theorem nilC_nil1 : nilC 1 (.slice none 0 0) = lst ([] : List Int) := (rfl)
@[go_sem] theorem nilC_nil2 : nilC 2 (.slice none 0 0) = lst ([] : List GEquation) := (rfl)
@[go_sem] theorem nilC_lst {α : Type} [Enc α] (k : Nat) (xs : List α) : nilC k (lst xs) = lst xs := (rfl)

theorem firstF2 (a b : Int) : firstF id [a, b] = if a ≠ 0 then a else b := by
  by_cases h : a = 0
  · subst h; by_cases h2 : b = 0 <;> simp [firstF, h2]
  · simp [firstF, h]
theorem firstF3 (a b c : Int) : firstF id [a, b, c] = if a ≠ 0 then a else if b ≠ 0 then b else c := by
  by_cases h : a = 0
  · subst h; by_cases h2 : b = 0
    · subst h2; by_cases h3 : c = 0 <;> simp [firstF, h3]
    · simp [firstF, h2]
  · simp [firstF, h]
theorem sm_two {α : Type} [Sz α] {a b : α} (h1 : sm a) (h2 : sm b) : sm [a, b] := ⟨by simp, fun x hx => by
  rcases List.mem_cons.1 hx with rfl | hx
  · exact h1
  · rw [List.mem_singleton.1 hx]; exact h2⟩
theorem sm_one {α : Type} [Sz α] {a : α} (h1 : sm a) : sm [a] := ⟨by simp, fun x hx => by rw [List.mem_singleton.1 hx]; exact h1⟩
theorem sm_uniq {ts : List (List Int)} (h : ts.length ≤ 100) (h2 : ∀ t ∈ ts, t.length ≤ 24) : sm (uniqI (varsL ts)) := by
  refine (sm_ints _).2 ?_
  have := uniq_len (varsL ts)
  have := varsL_len h2
  omega
theorem term_small {s : GSignature} (h : SigOK s) {t : List Int} (ht : TermOK s t) : t.length ≤ 24 ∧ smallN t := ⟨ht.len.2, nodes_small h ht.nodes⟩
theorem termF_G {s : GSignature} (h : sigF s = 0) (t : List Int) : termF s t = termG s t := by unfold termF; rw [if_neg (by simp [h])]
theorem rules_eqs {s : GSignature} {l : List GEquation} (h : rulesG s l = 0) : eqsG s l = 0 := by
  unfold rulesG at h
  by_cases h1 : eqsG s l = 0
  · exact h1
  · rw [if_pos h1] at h; exact absurd h h1
theorem any_not {α : Type} (l : List α) (p : α → Bool) : (!l.any fun x => !p x) = l.all p := by
  rw [Bool.eq_iff_iff]
  simp
end Go.SC
