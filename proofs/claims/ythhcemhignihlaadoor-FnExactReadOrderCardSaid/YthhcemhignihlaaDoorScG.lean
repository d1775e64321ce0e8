/- Memory: loads, new blocks, stores. -/
import Derived.Test.YthhcemhignihlaaDoorScF
import Derived.Below
namespace Go.SC
open Go

/-! ### the machine's rows -/
theorem cell_of {w : World} {B : Nat} {cs : Array Value} {e : TypeId} {fr : Nat × Nat} (h : w.heap[B]? = some (.cells cs e fr)) (o : Nat) : w.cell? ⟨B, o, none⟩ = cs[o]? := by
  simp [World.cell?, h]
theorem frozen_of {w : World} {B : Nat} {cs : Array Value} {e : TypeId} {fr : Nat × Nat} (h : w.heap[B]? = some (.cells cs e fr)) {o : Nat} (hu : Unfr fr cs.size) (ho : o < cs.size) : w.frozen? ⟨B, o, none⟩ = false := by
  have := hu o ho
  simp only [World.frozen?, h]
  simpa using this

theorem alloc_old {w : World} {o : Obj} {B : Nat} {x : Obj} (h : w.heap[B]? = some x) : (w.alloc o).heap[B]? = some x := by
  have hlt : B < w.heap.size := (Array.getElem?_eq_some_iff.1 h).1
  rw [RowKit.Below.heap_alloc w o B hlt, h]
theorem alloc_new (w : World) (o : Obj) : (w.alloc o).heap[w.heap.size]? = some o := by
  show (w.heap.push o)[w.heap.size]? = some o
  simp
theorem rows_alloc (w : World) (o : Obj) : Rows' w (w.alloc o) := fun _ cs _ fr h => ⟨cs, fr, alloc_old h, rfl⟩

theorem fro_alloc (ι : Ren) (w : World) (o : Obj) : Fro ι w (w.alloc o) := ⟨rows_alloc w o, fun _ _ _ _ _ h => alloc_old h⟩

theorem setCell_same {w : World} {B : Nat} {cs : Array Value} {e : TypeId} {fr : Nat × Nat} (h : w.heap[B]? = some (.cells cs e fr)) (o : Nat) (v : Value) :
    (w.setCell ⟨B, o, none⟩ v).heap[B]? = some (.cells (cs.setIfInBounds o v) e fr) := by
  simp [World.setCell, Array.getElem?_modify, h]
theorem setCell_other {w : World} {B B' : Nat} (o : Nat) (v : Value) (h : B' ≠ B) : (w.setCell ⟨B, o, none⟩ v).heap[B']? = w.heap[B']? :=
  RowKit.Below.heap_setCell w ⟨B, o, none⟩ v B' h
theorem rows_setCell (w : World) (B o : Nat) (v : Value) : Rows' w (w.setCell ⟨B, o, none⟩ v) := fun B' cs e fr h => by
  by_cases hB : B' = B
  · subst hB
    exact ⟨_, fr, setCell_same h o v, by simp⟩
  · exact ⟨cs, fr, by rw [setCell_other o v hB, h], rfl⟩

theorem fro_setCell {ι : Ren} (w : World) (B o : Nat) (v : Value) (h : ¬ ι.fz B) : Fro ι w (w.setCell ⟨B, o, none⟩ v) :=
  ⟨rows_setCell w B o v, fun B' cs e fr h1 h2 => by rw [setCell_other o v (fun (e : B' = B) => h (by rw [← e]; exact h1)), h2]⟩
theorem Keep.alloc (A : Nat → Prop) {ι ι' : Ren} (w : World) (o : Obj) (hf : FzLe ι ι' := by exact FzLe.refl _) (hg : ∀ B, ι'.fz B → ι.fz B ∨ A B := by exact fun _ h => .inl h) : Keep A ι w ι' (w.alloc o) :=
  ⟨rfl, rfl, rfl, by simp, fun B hB _ => RowKit.Below.heap_alloc w o B hB, fro_alloc ι w o, hf, hg⟩
theorem Keep.setCell {A : Nat → Prop} {ι : Ren} (w : World) {B : Nat} (o : Nat) (v : Value) (hA : A B) (hz : ¬ ι.fz B) : Keep A ι w ι (w.setCell ⟨B, o, none⟩ v) :=
  ⟨rfl, rfl, rfl, by simp, fun B' _ hA' => setCell_other o v (fun h => hA' (h ▸ hA)), fro_setCell w B o v hz, FzLe.refl _, fun _ h => .inl h⟩
theorem MapOK.alloc {w : World} {B : Nat} {p : Array Value} (h : MapOK w B p) (o : Obj) : MapOK (w.alloc o) B p := by
  obtain ⟨es, c, h1, h2⟩ := h
  exact ⟨es, c, alloc_old h1, h2⟩
theorem MapOK.other {w w' : World} {B : Nat} {p : Array Value} (h : MapOK w B p) (hB : w'.heap[B]? = w.heap[B]?) : MapOK w' B p := by
  obtain ⟨es, c, h1, h2⟩ := h
  exact ⟨es, c, hB.trans h1, h2⟩
theorem MapOK.setCell {w : World} {B B' : Nat} {p : Array Value} (h : MapOK w B p) {cs : Array Value} {e : TypeId} {fr : Nat × Nat} (hc : w.heap[B']? = some (.cells cs e fr)) (o : Nat) (v : Value) : MapOK (w.setCell ⟨B', o, none⟩ v) B p := by
  obtain ⟨es, c, h1, h2⟩ := h
  have hne : B ≠ B' := fun e => by subst e; rw [h1] at hc; cases hc
  exact ⟨es, c, (setCell_other o v hne).trans h1, h2⟩

/-! ### loads -/
theorem loadCells_run (P : Program) {w : World} {B : Nat} {cs : Array Value} {e : TypeId} {fr : Nat × Nat} (h : w.heap[B]? = some (.cells cs e fr)) (o : Nat) :
    ∀ (n i : Nat) (acc : Array Value), o + i + n ≤ cs.size → (loadCellsFrom ⟨B, o, none⟩ i n acc).run P w = .ok (acc ++ cs.extract (o + i) (o + i + n)) w
  | 0, i, acc, _ => by simp [loadCellsFrom]; omega
  | n + 1, i, acc, hle => by
    have hlt : o + i < cs.size := by omega
    simp only [loadCellsFrom, Sem.run_bind, run_load, add_addr, cell_of h, Array.getElem?_eq_getElem hlt, Result.andThen_ok]
    rw [loadCells_run P h o n (i + 1) _ (by omega)]
    congr 1
    apply Array.ext'
    simp only [Array.toList_append, Array.toList_push, Array.toList_extract, List.extract_eq_take_drop, List.append_assoc]
    congr 1
    rw [show o + i + (n + 1) - (o + i) = n + 1 from by omega, show o + (i + 1) + n - (o + (i + 1)) = n from by omega, show o + (i + 1) = o + i + 1 from by omega]
    have hd : cs.toList.drop (o + i) = cs[o + i] :: cs.toList.drop (o + i + 1) := by
      rw [List.drop_eq_getElem_cons (by simpa using hlt)]; simp
    rw [hd]
    simp

def aload (P : Program) (t : TypeId) (b : Blk) (off : Nat) : Option Value :=
  match ask P (isAgg t) with
  | some true => match ask P (sizeOf t) with
    | some n => if 0 < n ∧ off + n ≤ b.cells.length then some (.agg ((b.cells.drop off).take n).toArray) else none
    | none => none
  | some false => b.cells[off]?
  | none => none

theorem Rel.at_ {A : Nat → Prop} {ι : Ren} {H : AH} {Bd : Nat} {w : World} (h : Rel A ι H Bd w) {n : Nat} {b : Blk} (hb : H n = some b) (hne : b.cells ≠ []) :
    ∃ B base cs e fr, ι n = some (.at B base) ∧ w.heap[B]? = some (.cells cs e fr) ∧ (b.own = true → A B ∧ Unfr fr cs.size) ∧ (b.own = false → ¬ A B) ∧
      ∀ i v, b.cells[i]? = some v → ∃ v', cs[base + i]? = some v' ∧ VR ι w v v' := by
  rcases h.blk n b hb with ⟨_, hc⟩ | h
  · exact absurd hc hne
  · exact h

theorem aload_sound {P : Program} {A : Nat → Prop} {ι : Ren} {H : AH} {Bd : Nat} {w : World} (hr : Rel A ι H Bd w) {n off : Nat} {b : Blk} {t : TypeId} {v x' : Value} (hb : H n = some b)
    (hx : VR ι w (.pointer (some ⟨n, off, none⟩)) x') (h : aload P t b off = some v) : ∃ v', (Instr.loadAt t x').run P w = .ok v' w ∧ VR ι w v v' := by
  obtain ⟨B, base, hn, rfl⟩ := ev_ptr hx
  rcases hr.blk n b hb with ⟨hv, _⟩ | ⟨B', base', cs, e, fr, hn', hB, _, _, hc⟩
  · rw [hn] at hv; cases hv
  rw [hn] at hn'
  cases hn'
  unfold aload at h
  simp only [Instr.loadAt, Instr.sureAddr, Sem.run_bind, Sem.run_pure, Result.andThen_ok, loadVar]
  split at h
  · rename_i hagg
    split at h
    · rename_i k hk
      simp only [Option.ite_none_right_eq_some, Option.some.injEq] at h
      obtain ⟨⟨hk0, hle⟩, rfl⟩ := h
      have hsz : base + off + k ≤ cs.size := by
        obtain ⟨v', h3, _⟩ := hc (off + k - 1) (b.cells[off + k - 1]'(by omega)) (by simp)
        have := (Array.getElem?_eq_some_iff.1 h3).1; omega
      simp only [ask_isAgg hagg w, Result.andThen_ok, if_true, Sem.run_bind, ask_sizeOf hk w, loadCells, loadCells_run P hB (base + off) k 0 #[] (by omega), Sem.run_pure, Nat.add_zero]
      refine ⟨_, rfl, .agg ?_ ?_⟩
      · simp; omega
      · intro i u u' h1 h2
        simp only [List.getElem?_toArray, List.getElem?_take, List.getElem?_drop] at h1
        split at h1
        · rename_i hi
          obtain ⟨u2, h3, h4⟩ := hc (off + i) u h1
          have : u' = u2 := by
            have h2' : cs[base + off + i]? = some u' := by
              have hlt : base + off + i < base + off + k := by omega
              rw [Array.empty_append, Array.getElem?_extract] at h2
              split at h2
              · exact h2
              · cases h2
            rw [Nat.add_assoc, h3] at h2'
            cases h2'; rfl
          subst this
          exact h4
        · cases h1
    · cases h
  · rename_i hagg
    obtain ⟨v', h3, h4⟩ := hc off v h
    simp only [ask_isAgg hagg w, Result.andThen_ok, Bool.false_eq_true, if_false, run_load, cell_of hB, h3]
    exact ⟨v', rfl, h4⟩
  · cases h

/-- A load at a place of a list that is never written again. -/
theorem vload_sound {P : Program} {ι : Ren} {w : World} {m : String} {fs cells : Array Value} {t : TypeId} {v x' : Value} (hx : VR ι w (.func (.method m) fs cells) x') (h : aload P t ⟨cells.toList, false⟩ 0 = some v) :
    ∃ v', (Instr.loadAt t x').run P w = .ok v' w ∧ VR ι w v v' := by
  obtain ⟨rfl, rfl, B, base, cs, e, fr, rfl, hfz, hB, hsz, hc⟩ := ev_vp hx
  unfold aload at h
  simp only [Instr.loadAt, Instr.sureAddr, Sem.run_bind, Sem.run_pure, Result.andThen_ok, loadVar]
  split at h
  · rename_i hagg
    split at h
    · rename_i k hk
      simp only [Option.ite_none_right_eq_some, Option.some.injEq] at h
      obtain ⟨⟨hk0, hle⟩, rfl⟩ := h
      simp only [Nat.zero_add, Array.length_toList] at hle
      simp only [ask_isAgg hagg w, Result.andThen_ok, if_true, Sem.run_bind, ask_sizeOf hk w, loadCells, loadCells_run P hB base k 0 #[] (by omega), Sem.run_pure, Nat.add_zero]
      refine ⟨_, rfl, .agg ?_ ?_⟩
      · simp; omega
      · intro i u u' h1 h2
        simp only [List.getElem?_toArray, List.getElem?_take, List.getElem?_drop, Nat.zero_add] at h1
        split at h1
        · rename_i hi
          rw [Array.empty_append, Array.getElem?_extract] at h2
          split at h2
          · exact hc i u u' (by simpa using h1) h2
          · cases h2
        · cases h1
    · cases h
  · rename_i hagg
    simp only [Array.getElem?_toList] at h
    have hlt : 0 < cells.size := (Array.getElem?_eq_some_iff.1 h).1
    have h3 : cs[base]? = some (cs[base]'(by omega)) := by simp
    simp only [ask_isAgg hagg w, Result.andThen_ok, Bool.false_eq_true, if_false, run_load, cell_of hB, h3]
    exact ⟨_, rfl, hc 0 v _ h (by rw [Nat.add_zero]; exact h3)⟩
  · cases h

end Go.SC
