/- The abstract memory: values over names of blocks, the relation to the machine's memory, and what keeps it. -/
import Derived.Calls
import Derived.Orders
import Derived.Laws.World
import Derived.Laws.Sem
namespace Go.SC
open Go

/-- A value of which nothing is said. -/
abbrev unk : Value := .chan none

/-- Where a name's block lies: nowhere (it has no cells), or in block B from cell base on. -/
inductive Loc where
  | void
  | at (B base : Nat)

/-- Where names lie, which of the machine's blocks are never written again, and which are maps whose entries all stand in a table. -/
structure Ren where
  m : Nat → Option Loc
  fz : Nat → Prop
  mp : Nat → Option (Array Value)
instance : CoeFun Ren (fun _ => Nat → Option Loc) := ⟨Ren.m⟩

structure Blk where
  cells : List Value
  own : Bool

abbrev AH := Nat → Option Blk

def upd (H : AH) (n : Nat) (b : Option Blk) : AH := fun m => if m = n then b else H m

@[simp] theorem upd_same (H : AH) (n : Nat) (b : Option Blk) : upd H n b n = b := by simp [upd]
theorem upd_other (H : AH) {n m : Nat} (b : Option Blk) (h : m ≠ n) : upd H n b m = H m := by simp [upd, h]
theorem upd_app (H : AH) (n m : Nat) (b : Option Blk) : upd H n b m = if m = n then b else H m := rfl

/-- Block B of the machine is a row of cells of this size. -/
def Row (w : World) (B size : Nat) : Prop := ∃ cs e fr, w.heap[B]? = some (.cells cs e fr) ∧ cs.size = size

/-- An entry that stands in a table: the key is a pair of numbers, the answer a Boolean. -/
def memoOK (rows : Array Value) (k v : Value) : Prop := ∃ (i j : Nat) (b : Bool), k = .agg #[.int .i64 i, .int .i64 j] ∧ v = .bool b ∧ j < 32 ∧ rows[i * 32 + j]? = some (.bool b)
/-- Block B of the machine is a map whose entries all stand in a table. -/
def MapOK (w : World) (B : Nat) (rows : Array Value) : Prop := ∃ es clock, w.heap[B]? = some (.map es clock) ∧ ∀ e ∈ es, memoOK rows e.key e.val

/-- An abstract value and a value of the machine. -/
inductive VR (ι : Ren) (w : World) : Value → Value → Prop
  | unk (v : Value) : VR ι w unk v
  | bool (b : Bool) : VR ι w (.bool b) (.bool b)
  | int (k : IntKind) (n : Int) : VR ι w (.int k n) (.int k n)
  | string (s : ByteArray) : VR ι w (.string s) (.string s)
  | nilp : VR ι w (.pointer none) (.pointer none)
  | ptr {n off B base : Nat} (h : ι n = some (.at B base)) : VR ι w (.pointer (some ⟨n, off, none⟩)) (.pointer (some ⟨B, base + off, none⟩))
  | nils : VR ι w (.slice none 0 0) (.slice none 0 0)
  | sl {n off k len c c' : Nat} {A : Option Addr} (hn : ∃ l, ι n = some l) (hl : len ≤ c') (h0 : c = 0 → c' = 0) (h1 : c - 1 ≤ c')
      (hA : c' = 0 ∨ ∃ B base size, ι n = some (.at B base) ∧ A = some ⟨B, base + off, none⟩ ∧ Row w B size ∧ base + off + c' * k ≤ size) :
      VR ι w (.slice (some ⟨n, off, some k⟩) len c) (.slice A len c')
  | agg {xs ys : Array Value} (hs : xs.size = ys.size) (h : ∀ (i : Nat) v v', xs[i]? = some v → ys[i]? = some v' → VR ι w v v') : VR ι w (.agg xs) (.agg ys)
  | tuple {xs ys : Array Value} (hs : xs.size = ys.size) (h : ∀ (i : Nat) v v', xs[i]? = some v → ys[i]? = some v' → VR ι w v v') : VR ι w (.tuple xs) (.tuple ys)
  | func {f : FuncId} {xs ys : Array Value} (hs : xs.size = ys.size) (h : ∀ (i : Nat) v v', xs[i]? = some v → ys[i]? = some v' → VR ι w v v') :
      VR ι w (.func (.func f) #[] xs) (.func (.func f) #[] ys)
  | nilf : VR ι w .nilFunc .nilFunc
  | nili : VR ι w .nilIface .nilIface
  | iface {t : TypeId} {v v' : Value} (h : VR ι w v v') : VR ι w (.iface t v) (.iface t v')
  /-- A list that is never written again: its rows. -/
  | lst0 {k : Nat} {A : Option Addr} {c' : Nat} : VR ι w (.func (.yield k) #[] #[]) (.slice A 0 c')
  | lst {k : Nat} {rows : Array Value} {B base c' : Nat} {cs : Array Value} {e : TypeId} {fr : Nat × Nat} (hfz : ι.fz B) (hB : w.heap[B]? = some (.cells cs e fr))
      (hl : rows.size ≤ c') (hsz : base + c' * k ≤ cs.size) (hr : ∀ (i : Nat) x, rows[i]? = some x → ∃ r : Array Value, x = .agg r ∧ r.size = k)
      (hc : ∀ (i j : Nat) (r : Array Value) v v', rows[i]? = some (.agg r) → r[j]? = some v → cs[base + i * k + j]? = some v' → VR ι w v v') :
      VR ι w (.func (.yield k) #[] rows) (.slice (some ⟨B, base, none⟩) rows.size c')
  /-- A place in such a list: the cells from there on. -/
  | vp {cells : Array Value} {B base : Nat} {cs : Array Value} {e : TypeId} {fr : Nat × Nat} (hfz : ι.fz B) (hB : w.heap[B]? = some (.cells cs e fr)) (hsz : base + cells.size ≤ cs.size)
      (hc : ∀ (j : Nat) v v', cells[j]? = some v → cs[base + j]? = some v' → VR ι w v v') : VR ι w (.func (.method "") #[] cells) (.pointer (some ⟨B, base, none⟩))
  /-- A map whose entries all stand in a table. -/
  | mp {B : Nat} {rows : Array Value} (h : ι.mp B = some rows) : VR ι w (.func (.methodOf 0 "") #[] rows) (.map (some B))

/-- Marks stay. -/
def FzLe (ι ι' : Ren) : Prop := (∀ B, ι.fz B → ι'.fz B) ∧ ∀ B p, ι.mp B = some p → ι'.mp B = some p
theorem FzLe.refl (ι : Ren) : FzLe ι ι := ⟨fun _ h => h, fun _ _ h => h⟩
theorem FzLe.trans {a b c : Ren} (h : FzLe a b) (k : FzLe b c) : FzLe a c := ⟨fun B q => k.1 B (h.1 B q), fun B p q => k.2 B p (h.2 B p q)⟩
structure Ext (ι ι' : Ren) : Prop where
  m : ∀ n l, ι n = some l → ι' n = some l
  fz : FzLe ι ι'
theorem Ext.refl (ι : Ren) : Ext ι ι := ⟨fun _ _ h => h, FzLe.refl ι⟩
theorem Ext.trans {a b c : Ren} (h : Ext a b) (k : Ext b c) : Ext a c := ⟨fun n l e => k.m n l (h.m n l e), h.fz.trans k.fz⟩

/-- Rows keep their sizes and their elements' types. -/
def Rows' (w w' : World) : Prop := ∀ (B : Nat) cs e fr, w.heap[B]? = some (.cells cs e fr) → ∃ cs' fr', w'.heap[B]? = some (.cells cs' e fr') ∧ cs'.size = cs.size
theorem Rows'.refl (w : World) : Rows' w w := fun _ cs _ fr h => ⟨cs, fr, h, rfl⟩
theorem Rows'.trans {a b c : World} (h : Rows' a b) (k : Rows' b c) : Rows' a c := fun B cs e fr hB => by
  obtain ⟨cs1, fr1, h1, s1⟩ := h B cs e fr hB
  obtain ⟨cs2, fr2, h2, s2⟩ := k B cs1 e fr1 h1
  exact ⟨cs2, fr2, h2, s2.trans s1⟩
theorem Row.mono {w w' : World} {B size : Nat} (h : Row w B size) (k : Rows' w w') : Row w' B size := by
  obtain ⟨cs, e, fr, hB, rfl⟩ := h
  obtain ⟨cs', fr', h', hs⟩ := k B cs e fr hB
  exact ⟨cs', e, fr', h', hs⟩

/-- Rows keep their sizes, and what is never written again stays. -/
structure Fro (ι : Ren) (w w' : World) : Prop where
  rows : Rows' w w'
  fz : ∀ (B : Nat) cs e fr, ι.fz B → w.heap[B]? = some (.cells cs e fr) → w'.heap[B]? = some (.cells cs e fr)
theorem Fro.refl (ι : Ren) (w : World) : Fro ι w w := ⟨Rows'.refl w, fun _ _ _ _ _ h => h⟩

theorem VR.mono {ι ι' : Ren} {w w' : World} (hι : Ext ι ι') (hw : Fro ι w w') {v v' : Value} (h : VR ι w v v') : VR ι' w' v v' := by
  induction h with
  | unk v => exact .unk v
  | bool b => exact .bool b
  | int k n => exact .int k n
  | string s => exact .string s
  | nilp => exact .nilp
  | ptr h => exact .ptr (hι.m _ _ h)
  | nils => exact .nils
  | sl hn hl h0 h1 hA =>
    refine .sl (hn.imp fun l h => hι.m _ _ h) hl h0 h1 (hA.imp id ?_)
    rintro ⟨B, base, size, h2, h3, h4, h5⟩
    exact ⟨B, base, size, hι.m _ _ h2, h3, h4.mono hw.rows, h5⟩
  | agg hs _ ih => exact .agg hs fun i v v' h1 h2 => ih i v v' h1 h2
  | tuple hs _ ih => exact .tuple hs fun i v v' h1 h2 => ih i v v' h1 h2
  | func hs _ ih => exact .func hs fun i v v' h1 h2 => ih i v v' h1 h2
  | nilf => exact .nilf
  | nili => exact .nili
  | iface _ ih => exact .iface ih
  | lst0 => exact .lst0
  | lst hfz hB hl hsz hr _ ih => exact .lst (hι.fz.1 _ hfz) (hw.fz _ _ _ _ hfz hB) hl hsz hr fun i j r v v' h1 h2 h3 => ih i j r v v' h1 h2 h3
  | vp hfz hB hsz _ ih => exact .vp (hι.fz.1 _ hfz) (hw.fz _ _ _ _ hfz hB) hsz fun j v v' h1 h2 => ih j v v' h1 h2
  | mp h => exact .mp (hι.fz.2 _ _ h)

/-- No cell of a row of this size is frozen. -/
def Unfr (fr : Nat × Nat) (size : Nat) : Prop := ∀ i, i < size → ¬ (fr.1 ≤ i ∧ i < fr.2)

/-- One abstract block and the machine's. -/
def BR (A : Nat → Prop) (ι : Ren) (w : World) (n : Nat) (b : Blk) : Prop :=
  (ι n = some .void ∧ b.cells = []) ∨
  ∃ B base cs e fr, ι n = some (.at B base) ∧ w.heap[B]? = some (.cells cs e fr) ∧ (b.own = true → A B ∧ Unfr fr cs.size) ∧ (b.own = false → ¬ A B) ∧
    ∀ i v, b.cells[i]? = some v → ∃ v', cs[base + i]? = some v' ∧ VR ι w v v'

structure Rel (A : Nat → Prop) (ι : Ren) (H : AH) (Bd : Nat) (w : World) : Prop where
  bound : ∀ n, Bd ≤ n → ι n = none
  blk : ∀ n b, H n = some b → BR A ι w n b
  apart : ∀ n m b b' B base B' base', n ≠ m → H n = some b → H m = some b' → b.own = true →
    ι n = some (.at B base) → ι m = some (.at B' base') → B ≠ B'
  newA : ∀ B, w.heap.size ≤ B → A B
  froz : ∀ n b B base, H n = some b → b.own = true → ι n = some (.at B base) → ¬ ι.fz B
  fzlt : ∀ B, ι.fz B → B < w.heap.size
  glob : ∀ n b, H n = some b → b.own = false → ι n = some (.at n 0) ∧ Row w n b.cells.length
  mp : ∀ B p, ι.mp B = some p → A B ∧ MapOK w B p

structure Keep (A : Nat → Prop) (ι : Ren) (w : World) (ι' : Ren) (w' : World) : Prop where
  os : w'.os = w.os
  tape : w'.tape = w.tape
  output : w'.output = w.output
  size : w.heap.size ≤ w'.heap.size
  block : ∀ B : Nat, B < w.heap.size → ¬ A B → w'.heap[B]? = w.heap[B]?
  rows : Fro ι w w'
  fz : FzLe ι ι'
  fzA : ∀ B, ι'.fz B → ι.fz B ∨ A B

theorem Fro.trans {ι ι' : Ren} {a b c : World} (h : Fro ι a b) (hf : FzLe ι ι') (k : Fro ι' b c) : Fro ι a c :=
  ⟨h.rows.trans k.rows, fun B cs e fr h1 h2 => k.fz B cs e fr (hf.1 B h1) (h.fz B cs e fr h1 h2)⟩
theorem Keep.refl (A : Nat → Prop) {ι ι' : Ren} (w : World) (hf : FzLe ι ι' := by exact FzLe.refl _) (hg : ∀ B, ι'.fz B → ι.fz B ∨ A B := by exact fun _ h => .inl h) : Keep A ι w ι' w := ⟨rfl, rfl, rfl, Nat.le_refl _, fun _ _ _ => rfl, Fro.refl ι w, hf, hg⟩
theorem Keep.trans {A : Nat → Prop} {ι ι1 ι2 : Ren} {a b c : World} (h : Keep A ι a ι1 b) (k : Keep A ι1 b ι2 c) : Keep A ι a ι2 c :=
  ⟨k.os.trans h.os, k.tape.trans h.tape, k.output.trans h.output, Nat.le_trans h.size k.size,
    fun B hB hA => (k.block B (Nat.lt_of_lt_of_le hB h.size) hA).trans (h.block B hB hA), h.rows.trans h.fz k.rows, h.fz.trans k.fz, fun B hB => (k.fzA B hB).elim (fun q => h.fzA B q) .inr⟩
theorem Fro.drew (ι : Ren) (w : World) : Fro ι w w.drew := ⟨Rows'.refl w, fun _ _ _ _ _ h => h⟩
theorem Keep.drew (A : Nat → Prop) {ι : Ren} (w : World) : Keep A ι w ι w.drew := ⟨rfl, rfl, rfl, Nat.le_refl _, fun _ _ _ => rfl, Fro.drew ι w, FzLe.refl ι, fun _ h => .inl h⟩

theorem BR.mono {A : Nat → Prop} {ι ι' : Ren} {w w' : World} {n : Nat} {b : Blk} (hι : Ext ι ι') (hw : Fro ι w w')
    (hB : ∀ B base, ι n = some (.at B base) → w'.heap[B]? = w.heap[B]?) (h : BR A ι w n b) : BR A ι' w' n b := by
  rcases h with ⟨h, hc⟩ | ⟨B, base, cs, e, fr, h1, h2, h3, h4, h5⟩
  · exact .inl ⟨hι.m _ _ h, hc⟩
  · refine .inr ⟨B, base, cs, e, fr, hι.m _ _ h1, (hB B base h1).trans h2, h3, h4, fun i v hv => ?_⟩
    obtain ⟨v', hv', hr⟩ := h5 i v hv
    exact ⟨v', hv', hr.mono hι hw⟩

/-- A draw turns nothing. -/
theorem Rel.drew {A : Nat → Prop} {ι : Ren} {H : AH} {Bd : Nat} {w : World} (h : Rel A ι H Bd w) : Rel A ι H Bd w.drew :=
  ⟨h.bound, fun n b hn => (h.blk n b hn).mono (Ext.refl ι) (Fro.drew ι w) (fun _ _ _ => rfl), h.apart, h.newA, h.froz, h.fzlt, h.glob, h.mp⟩

/-- Slots. -/
def SR (ι : Ren) (w : World) (s : List Value) (t : Array Value) : Prop :=
  s.length = t.size ∧ ∀ (i : Nat) v v', s[i]? = some v → t[i]? = some v' → VR ι w v v'

theorem SR.mono {ι ι' : Ren} {w w' : World} (hι : Ext ι ι') (hw : Fro ι w w') {s : List Value} {t : Array Value} (h : SR ι w s t) : SR ι' w' s t :=
  ⟨h.1, fun i v v' h1 h2 => (h.2 i v v' h1 h2).mono hι hw⟩

theorem SR.get {ι : Ren} {w : World} {s : List Value} {t : Array Value} (h : SR ι w s t) (i : Nat) : VR ι w (s.getD i undef) (t.getD i undef) := by
  by_cases hi : i < s.length
  · have hi' : i < t.size := h.1 ▸ hi
    have := h.2 i s[i] t[i] (by simp [hi]) (by simp [hi'])
    simpa [List.getD_eq_getElem?_getD, hi, Array.getD, hi'] using this
  · have hi' : ¬ i < t.size := h.1 ▸ hi
    have e1 : s.getD i undef = undef := by simp [List.getD_eq_getElem?_getD, List.getElem?_eq_none (Nat.le_of_not_lt hi)]
    have e2 : t.getD i undef = undef := by simp [Array.getD, hi']
    rw [e1, e2]
    exact .tuple rfl fun i v v' h1 _ => by simp at h1

theorem SR.set {ι : Ren} {w : World} {s : List Value} {t : Array Value} (h : SR ι w s t) (d : Nat) {v v' : Value} (hv : VR ι w v v') : SR ι w (s.set d v) (t.setIfInBounds d v') := by
  refine ⟨by simp [h.1], fun i x x' h1 h2 => ?_⟩
  by_cases e : d = i
  · subst e
    have hd : d < s.length := by
      have := List.getElem?_eq_some_iff.1 h1
      simpa using this.1
    rw [List.getElem?_set_self hd] at h1
    rw [Array.getElem?_setIfInBounds_self_of_lt (h.1 ▸ hd)] at h2
    cases h1; cases h2
    exact hv
  · rw [List.getElem?_set_ne e] at h1
    rw [Array.getElem?_setIfInBounds_ne e] at h2
    exact h.2 i x x' h1 h2

structure St (A : Nat → Prop) (ι : Ren) (s : List Value) (H : AH) (Bd : Nat) (a : Act) (w : World) : Prop where
  rel : Rel A ι H Bd w
  slots : SR ι w s a.tmps
  defers : a.defers = []

/-- A constant that names no memory. -/
def plainV : Value → Bool
  | .bool _ | .int .. | .string _ | .pointer none | .slice none 0 0 | .nilFunc | .nilIface => true
  | _ => false

/-- A slot's value. -/
def sget : List Value → Nat → Value
  | [], _ => undef
  | x :: _, 0 => x
  | _ :: xs, n + 1 => sget xs n
theorem sget_eq : ∀ (s : List Value) (n : Nat), sget s n = s.getD n undef
  | [], _ => rfl
  | _ :: _, 0 => rfl
  | _ :: xs, n + 1 => by rw [sget, sget_eq xs n]; simp
def sset : List Value → Nat → Value → List Value
  | [], _, _ => []
  | _ :: xs, 0, v => v :: xs
  | x :: xs, n + 1, v => x :: sset xs n v
theorem sset_eq : ∀ (s : List Value) (n : Nat) (v : Value), sset s n v = s.set n v
  | [], _, _ => rfl
  | _ :: _, 0, _ => rfl
  | _ :: xs, n + 1, v => by rw [sset, sset_eq xs n v]; rfl

/-- An operand's abstract value. -/
def ev (s : List Value) : Operand → Value
  | .tmp t => sget s t
  | .const v => if plainV v = true then v else unk
  | .global _ => unk
  | .func f => .func (.func f) #[] #[]

theorem VR.plain {ι : Ren} {w : World} {v : Value} (h : plainV v = true) : VR ι w v v := by
  cases v <;> first | (simp [plainV] at h; done) | constructor | skip
  · rename_i a; cases a <;> first | exact .nilp | simp [plainV] at h
  · rename_i a n c
    cases a with
    | none => cases n <;> cases c <;> first | exact .nils | simp [plainV] at h
    | some a => simp [plainV] at h

theorem SR.ev {ι : Ren} {w : World} {s : List Value} {a : Act} (h : SR ι w s a.tmps) (x : Operand) : VR ι w (ev s x) (a.eval x) := by
  cases x with
  | tmp t =>
    have := h.get t
    rw [← sget_eq] at this
    simpa [SC.ev, Act.eval, Array.getD_eq_getD_getElem?] using this
  | const v =>
    simp only [SC.ev, Act.eval]
    by_cases hv : plainV v = true
    · rw [if_pos hv]; exact VR.plain hv
    · rw [if_neg hv]; exact .unk v
  | global g => exact .unk _
  | func f => exact .func rfl fun i v v' h1 _ => by simp at h1

end Go.SC
