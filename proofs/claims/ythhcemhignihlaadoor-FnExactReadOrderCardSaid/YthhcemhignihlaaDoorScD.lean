/- Every quiet operation over abstract values: what it comes to, and that the machine's comes to the same. -/
import Derived.Test.YthhcemhignihlaaDoorScC
namespace Go.SC
open Go

/-- Rows of values, place by place. -/
def LR (ι : Ren) (w : World) (xs ys : List Value) : Prop := xs.length = ys.length ∧ ∀ (i : Nat) v v', xs[i]? = some v → ys[i]? = some v' → VR ι w v v'

theorem LR.mono {ι ι' : Ren} {w w' : World} (hι : Ext ι ι') (hw : Fro ι w w') {xs ys : List Value} (h : LR ι w xs ys) : LR ι' w' xs ys :=
  ⟨h.1, fun i v v' h1 h2 => (h.2 i v v' h1 h2).mono hι hw⟩
theorem LR.nil (ι : Ren) (w : World) : LR ι w [] [] := ⟨rfl, fun i v v' h1 _ => by simp at h1⟩
theorem LR.cons {ι : Ren} {w : World} {x y : Value} {xs ys : List Value} (h : VR ι w x y) (k : LR ι w xs ys) : LR ι w (x :: xs) (y :: ys) := by
  refine ⟨by simp [k.1], fun i v v' h1 h2 => ?_⟩
  cases i with
  | zero => simp at h1 h2; subst h1; subst h2; exact h
  | succ i => simp at h1 h2; exact k.2 i v v' h1 h2
theorem LR.append {ι : Ren} {w : World} {a b c d : List Value} (h : LR ι w a b) (k : LR ι w c d) : LR ι w (a ++ c) (b ++ d) := by
  refine ⟨by simp [h.1, k.1], fun i v v' h1 h2 => ?_⟩
  rw [List.getElem?_append] at h1 h2
  rw [h.1] at h1
  split at h1
  · rename_i hi; rw [if_pos hi] at h2; exact h.2 i v v' h1 h2
  · rename_i hi; rw [if_neg hi] at h2; exact k.2 _ v v' h1 h2
theorem LR.take {ι : Ren} {w : World} {a b : List Value} (h : LR ι w a b) (n : Nat) : LR ι w (a.take n) (b.take n) := by
  refine ⟨by simp [h.1], fun i v v' h1 h2 => ?_⟩
  rw [List.getElem?_take] at h1 h2
  split at h1
  · rename_i hi; rw [if_pos hi] at h2; exact h.2 i v v' h1 h2
  · cases h1
theorem LR.drop {ι : Ren} {w : World} {a b : List Value} (h : LR ι w a b) (n : Nat) : LR ι w (a.drop n) (b.drop n) := by
  refine ⟨by simp [h.1], fun i v v' h1 h2 => ?_⟩
  rw [List.getElem?_drop] at h1 h2
  exact h.2 _ v v' h1 h2
theorem LR.agg {ι : Ren} {w : World} {xs ys : List Value} (h : LR ι w xs ys) : VR ι w (.agg xs.toArray) (.agg ys.toArray) :=
  .agg (by simpa using h.1) fun i v v' h1 h2 => h.2 i v v' (by simpa using h1) (by simpa using h2)
theorem VR.toLR {ι : Ren} {w : World} {xs ys : Array Value} (h : VR ι w (.agg xs) (.agg ys)) : LR ι w xs.toList ys.toList := by
  cases h with
  | agg hs h => exact ⟨by simpa using hs, fun i v v' h1 h2 => h i v v' (by simpa using h1) (by simpa using h2)⟩
theorem VR.aggOut {ι : Ren} {w : World} {xs : Array Value} {v : Value} (h : VR ι w (.agg xs) v) : ∃ ys, v = .agg ys := by
  cases h with
  | agg hs h => exact ⟨_, rfl⟩

/-- A value of which something is said, cell by cell. -/
def isUnk : Value → Bool
  | .chan none => true
  | _ => false
def cellsL : Value → List Value
  | .agg cs => cs.toList
  | v => [v]
theorem cellsL_eq (v : Value) : cellsL v = v.cells.toList := by cases v <;> rfl
theorem VR.cells {ι : Ren} {w : World} {v v' : Value} (h : VR ι w v v') (hu : isUnk v = false) : LR ι w (cellsL v) v'.cells.toList := by
  cases h with
  | unk => simp [isUnk] at hu
  | agg hs h => exact VR.toLR (.agg hs h)
  | bool => exact .cons (.bool _) (.nil _ _)
  | int => exact .cons (.int _ _) (.nil _ _)
  | string => exact .cons (.string _) (.nil _ _)
  | nilp => exact .cons .nilp (.nil _ _)
  | ptr h => exact .cons (.ptr h) (.nil _ _)
  | nils => exact .cons .nils (.nil _ _)
  | sl hn hl h0 h1 hA => exact .cons (.sl hn hl h0 h1 hA) (.nil _ _)
  | tuple hs h => exact .cons (.tuple hs h) (.nil _ _)
  | func hs h => exact .cons (.func hs h) (.nil _ _)
  | nilf => exact .cons .nilf (.nil _ _)
  | nili => exact .cons .nili (.nil _ _)
  | iface h => exact .cons (.iface h) (.nil _ _)
  | lst0 => exact .cons .lst0 (.nil _ _)
  | lst a b c d e f => exact .cons (.lst a b c d e f) (.nil _ _)
  | vp a b c d => exact .cons (.vp a b c d) (.nil _ _)
  | mp h => exact .cons (.mp h) (.nil _ _)

/-! ### build -/
def lfill (place : Nat → Option (Nat × Nat)) (cells : List Value) : List (Nat × Value) → Option (List Value)
  | [] => some cells
  | (i, v) :: rest =>
    match place i with
    | none => none
    | some (off, size) =>
      if isUnk v = false ∧ (cellsL v).length = size ∧ off + size ≤ cells.length then lfill place (cells.take off ++ cellsL v ++ cells.drop (off + size)) rest else none

theorem foldl_set (vs : List Value) (off : Nat) : ∀ (cs : Array Value) (j : Nat), off + j + vs.length ≤ cs.size →
    ((vs.zipIdx j).foldl (fun (cs : Array Value) (c : Value × Nat) => cs.setIfInBounds (off + c.2) c.1) cs).toList = cs.toList.take (off + j) ++ vs ++ cs.toList.drop (off + j + vs.length) := by
  induction vs with
  | nil => intro cs j _; simp
  | cons v vs ih =>
    intro cs j h
    simp only [List.length_cons] at h
    rw [List.zipIdx_cons, List.foldl_cons, ih _ (j + 1) (by simp; omega)]
    have hlt : off + j < cs.toList.length := by simp; omega
    rw [Array.toList_setIfInBounds]
    rw [show off + (j + 1) = off + j + 1 from by omega, show off + j + (v :: vs).length = off + j + 1 + vs.length from by simp; omega]
    rw [List.take_add_one, List.getElem?_set_self hlt, List.take_set_of_le (by omega), List.drop_set_of_lt (by omega)]
    simp

theorem fill_sound {ι : Ren} {w : World} (place : Nat → Option (Nat × Nat)) :
    ∀ (ps ps' : List (Nat × Value)) (cells : List Value) (cells' : Array Value) (r : List Value), LR ι w cells cells'.toList →
      ps.length = ps'.length → (∀ (i : Nat) x x', ps[i]? = some x → ps'[i]? = some x' → x.1 = x'.1 ∧ VR ι w x.2 x'.2) → lfill place cells ps = some r →
      ∃ r', Instr.fill place cells' ps' = some r' ∧ LR ι w r r'.toList
  | [], [], cells, cells', r, hc, _, _, h => by cases h; exact ⟨cells', rfl, hc⟩
  | (i, v) :: ps, (i', v') :: ps', cells, cells', r, hc, hl, hp, h => by
    obtain ⟨hi, hv⟩ := hp 0 _ _ rfl rfl
    simp only at hi hv
    subst hi
    unfold lfill at h
    unfold Instr.fill
    cases hpl : place i with
    | none => rw [hpl] at h; cases h
    | some os =>
      obtain ⟨off, size⟩ := os
      rw [hpl] at h
      simp only [Option.ite_none_right_eq_some] at h
      obtain ⟨⟨hu, hs, ho⟩, h⟩ := h
      have hlr := hv.cells hu
      have hs' : v'.cells.size = size := by rw [← hs, hlr.1]; simp
      have ho' : off + size ≤ cells'.size := by have := hc.1; simp at this; omega
      simp only
      rw [if_neg (by simp [hs']; omega)]
      refine fill_sound place ps ps' _ _ r ?_ (by simpa using hl) (fun j x x' h1 h2 => hp (j + 1) x x' (by simpa using h1) (by simpa using h2)) h
      have hf : (Array.foldl (fun (cs : Array Value) (x : Value × Nat) => cs.setIfInBounds (off + x.2) x.1) cells' v'.cells.zipIdx).toList = cells'.toList.take off ++ v'.cells.toList ++ cells'.toList.drop (off + size) := by
        rw [← Array.foldl_toList, Array.toList_zipIdx, foldl_set _ off cells' 0 (by simp; omega)]
        simp [hs']
      have := (LR.append (LR.append (hc.take off) hlr) (hc.drop (off + size)))
      rw [← hf] at this
      exact this
  | [], _ :: _, _, _, _, _, hl, _, _ => by simp at hl
  | _ :: _, [], _, _, _, _, hl, _, _ => by simp at hl

def placesOf (P : Program) : List Field → Option (List (Nat × Nat))
  | [] => some []
  | f :: fs =>
    match ask P (sizeOf f.type), placesOf P fs with
    | some n, some r => some ((f.offset, n) :: r)
    | _, _ => none

theorem placesOf_sound {P : Program} (w : World) : ∀ (fs : List Field) (r : List (Nat × Nat)), placesOf P fs = some r →
    (fs.mapM (fun f => do pure (f.offset, ← sizeOf f.type) : Field → Sem (Nat × Nat))).run P w = .ok r w
  | [], r, h => by cases h; rfl
  | f :: fs, r, h => by
    unfold placesOf at h
    split at h
    · rename_i n r' h1 h2
      cases h
      simp only [List.mapM_cons, Sem.run_bind, ask_sizeOf h1 w, Result.andThen_ok, Sem.run_pure, placesOf_sound w fs r' h2]
    · cases h

/-- A constant, or nothing said of it. -/
def plainU (v : Value) : Value := if plainV v = true then v else unk
def abuild (P : Program) (t : TypeId) (parts : List (Nat × Value)) : Option Value :=
  match ask P (zeroValue t), ask P (underlying t) with
  | some (.agg z), some (.struct fs) =>
    match placesOf P fs.toList with
    | some ps => (lfill (ps[·]?) (z.toList.map plainU) parts).map fun l => .agg l.toArray
    | none => none
  | some (.agg z), some (.array _ e) =>
    match ask P (sizeOf e) with
    | some n => (lfill (fun i => some (i * n, n)) (z.toList.map plainU) parts).map fun l => .agg l.toArray
    | none => none
  | _, _ => none

theorem LR.plain {ι : Ren} {w : World} {l : List Value} (h : l.all plainV = true) : LR ι w l l :=
  ⟨rfl, fun i v v' h1 h2 => by rw [h1] at h2; cases h2; exact VR.plain (List.all_eq_true.1 h v (List.mem_of_getElem? h1))⟩

theorem LR.plainU {ι : Ren} {w : World} (l : List Value) : LR ι w (l.map SC.plainU) l := by
  refine ⟨by simp, fun i v v' h1 h2 => ?_⟩
  rw [List.getElem?_map, h2] at h1
  simp only [Option.map_some, Option.some.injEq] at h1
  subst h1
  unfold SC.plainU
  split
  · rename_i h; exact VR.plain h
  · exact .unk _
theorem plainU_all {l : List Value} (h : l.all plainV = true) : l.map plainU = l := by
  induction l with
  | nil => rfl
  | cons x l ih =>
    simp only [List.all_cons, Bool.and_eq_true] at h
    rw [List.map_cons, ih h.2, plainU, if_pos h.1]
theorem abuild_sound {P : Program} {ι : Ren} {w : World} {t : TypeId} {s : List Value} {a : Act} (hs : SR ι w s a.tmps) (parts : Array (Nat × Operand)) {v : Value}
    (h : abuild P t (parts.toList.map fun x => (x.1, ev s x.2)) = some v) :
    ∃ v', (Instr.build t (parts.map fun (i, x) => (i, a.eval x))).run P w = .ok v' w ∧ VR ι w v v' := by
  have hps : ∀ (i : Nat) x x', (parts.toList.map fun x => (x.1, ev s x.2))[i]? = some x → ((parts.map fun (i, x) => (i, a.eval x)).toList)[i]? = some x' → x.1 = x'.1 ∧ VR ι w x.2 x'.2 := by
    intro i x x' h1 h2
    simp only [Array.toList_map, List.getElem?_map] at h1 h2
    cases hp : parts.toList[i]? with
    | none => rw [hp] at h1; cases h1
    | some p =>
      rw [hp] at h1 h2
      simp only [Option.map_some, Option.some.injEq] at h1 h2
      subst h1; subst h2
      exact ⟨rfl, hs.ev _⟩
  unfold abuild at h
  split at h
  · rename_i z fs hz hu
    split at h
    · rename_i ps hpl
      simp only [Option.map_eq_some_iff] at h
      obtain ⟨l, hl, rfl⟩ := h
      obtain ⟨r', hr', hlr⟩ := fill_sound (ι := ι) (w := w) (ps[·]?) _ (parts.map fun (i, x) => (i, a.eval x)).toList (z.toList.map plainU) z l (LR.plainU _) (by simp) hps hl
      refine ⟨.agg r', ?_, ?_⟩
      · unfold Instr.build
        have hm : (fs.mapM (fun f => do pure (f.offset, ← sizeOf f.type) : Field → Sem (Nat × Nat))).run P w = .ok ps.toArray w := by
          have := placesOf_sound w fs.toList ps hpl
          rw [← Array.toList_mapM, Sem.run_map] at this
          cases hq : (fs.mapM (fun f => do pure (f.offset, ← sizeOf f.type) : Field → Sem (Nat × Nat))).run P w with
          | ok x w' => rw [hq] at this; simp only [Result.andThen_ok, Result.ok.injEq] at this; obtain ⟨h1, rfl⟩ := this; rw [← h1]
          | halt x w' => rw [hq] at this; simp at this
        simp only [Sem.run_bind, ask_zero hz w, run_und hu w, Result.andThen_ok, Value.cells, hm]
        simp only [List.getElem?_toArray, hr', Sem.run_pure]
      · simpa using hlr.agg
    · cases h
  · rename_i z n e hz hu
    split at h
    · rename_i k hk
      simp only [Option.map_eq_some_iff] at h
      obtain ⟨l, hl, rfl⟩ := h
      obtain ⟨r', hr', hlr⟩ := fill_sound (ι := ι) (w := w) (fun i => some (i * k, k)) _ (parts.map fun (i, x) => (i, a.eval x)).toList (z.toList.map plainU) z l (LR.plainU _) (by simp) hps hl
      refine ⟨.agg r', ?_, ?_⟩
      · unfold Instr.build
        simp only [Sem.run_bind, ask_zero hz w, run_und hu w, ask_sizeOf hk w, Result.andThen_ok, Value.cells]
        simp only [hr', Sem.run_pure]
      · simpa using hlr.agg
    · cases h
  · cases h

end Go.SC
