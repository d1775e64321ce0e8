/- Code with its drawn regions' plans, and how conditions over it are worked out. -/
import Derived.Test.YthhcemhignihlaaDoorScY
set_option linter.unusedSimpArgs false
set_option linter.unusedVariables false
namespace Go.SC
open Go

/-! ### rules of drawn regions -/
def memN : List Nat → Nat → Bool
  | [], _ => false
  | j :: l, i => if i = j then true else memN l i
theorem memN_eq (l : List Nat) (i : Nat) : l.contains i = memN l i := by
  induction l with
  | nil => rfl
  | cons j l ih =>
    simp only [memN, List.contains_cons, ih]
    by_cases h : i = j <;> simp [h]
def selA (act : List Nat) (pend : List (Nat × List Value)) : List (Nat × List Value) := pend.filter fun p => act.contains p.1
def dropA (act : List Nat) (pend : List (Nat × List Value)) : List (Nat × List Value) := pend.filter fun p => !act.contains p.1
def addW (i : Nat) (op : Op) (s : List Value) (v : Value) (wt : List (Nat × Op × List Value × Value)) : List (Nat × Op × List Value × Value) := if readsHeap op = true then (i, op, s, v) :: wt else wt
@[push_cast] theorem memN_nil (i : Nat) : memN [] i = false := (rfl)
@[push_cast] theorem memN_cons (j : Nat) (l : List Nat) (i : Nat) : memN (j :: l) i = if i = j then true else memN l i := (rfl)
@[push_cast] theorem selA_nil (act : List Nat) : selA act [] = [] := (rfl)
@[push_cast] theorem selA_cons (act : List Nat) (i : Nat) (c : List Value) (r : List (Nat × List Value)) : selA act ((i, c) :: r) = if memN act i = true then (i, c) :: selA act r else selA act r := by
  simp only [selA, List.filter_cons, memN_eq]
@[push_cast] theorem dropA_nil (act : List Nat) : dropA act [] = [] := (rfl)
@[push_cast] theorem dropA_cons (act : List Nat) (i : Nat) (c : List Value) (r : List (Nat × List Value)) : dropA act ((i, c) :: r) = if memN act i = true then dropA act r else (i, c) :: dropA act r := by
  simp only [dropA, List.filter_cons, memN_eq]
  cases memN act i <;> simp
@[push_cast] theorem full_nil' (B0 : Nat) (H : AH) : full B0 H [] = H := (rfl)
@[push_cast] theorem full_cons' (B0 : Nat) (H : AH) (i : Nat) (c : List Value) (r : List (Nat × List Value)) : full B0 H ((i, c) :: r) = upd (full B0 H r) (B0 + i) (some ⟨c, true⟩) := full_cons B0 H i c r
@[push_cast] theorem addP_none (i : Nat) (pend : List (Nat × List Value)) : addP i none pend = pend := (rfl)
@[push_cast] theorem addP_some (i : Nat) (c : List Value) (pend : List (Nat × List Value)) : addP i (some c) pend = (i, c) :: pend := (rfl)
@[push_cast] theorem clearOf_nil (B0 : Nat) (H : AH) : clearOf B0 [] H = True := (rfl)
@[push_cast] theorem clearOf_cons (B0 i : Nat) (c : List Value) (r : List (Nat × List Value)) (H : AH) : clearOf B0 ((i, c) :: r) H = (H (B0 + i) = none ∧ clearOf B0 r H) := (rfl)
section
variable {P : Program} (E : Env P) (ops : List Oper) (B0 : Nat) (rest : List Stp) (s : List Value) (H : AH) (Bd : Nat) (pend : List (Nat × List Value)) (wt : List (Nat × Op × List Value × Value)) (Q : List Value → AH → Nat → Prop)
@[push_cast] theorem watched_nil (wat : List Nat) : watched P [] wat H = True := (rfl)
@[push_cast] theorem watched_cons (i : Nat) (op : Op) (v : Value) (wat : List Nat) : watched P ((i, op, s, v) :: wt) wat H = ((if memN wat i = true then aq P s H 0 op = some (v, none) else True) ∧ watched P wt wat H) := by
  simp only [watched, memN_eq]
@[go_sem ↓] theorem opAt_z (o : Oper) (l : List Oper) (K : Oper → Prop) : opAt (o :: l) 0 K = K o := (rfl)
@[go_sem ↓] theorem opAt_s (o : Oper) (l : List Oper) (n : Nat) (K : Oper → Prop) : opAt (o :: l) (n + 1) K = opAt l n K := (rfl)
/-- One operation of a drawn region. -/
def vdR {P : Program} (E : Env P) (ops : List Oper) (B0 : Nat) (i : Nat) (act wat : List Nat) (rest : List Stp) (s : List Value) (H : AH) (Bd : Nat) (pend : List (Nat × List Value)) (wt : List (Nat × Op × List Value × Value)) (Q : List Value → AH → Nat → Prop) (o : Oper) : Prop :=
  if isEff o.op = true then
    astep E o s (full B0 H (selA act pend)) Bd fun v H' Bd' =>
      clearOf B0 (dropA act pend) H' ∧ watched P wt wat (full B0 H' (dropA act pend)) ∧ vd E ops B0 rest (sput s o.dst v) H' Bd' (dropA act pend) wt Q
  else
    Yld (aq P s (full B0 H pend) (B0 + i) o.op) fun r => vd E ops B0 rest (sput s o.dst r.1) H Bd (addP i r.2 pend) (addW i o.op s r.1 wt) Q
@[go_sem ↓] theorem vd_nil : vd E ops B0 [] s H Bd pend wt Q = Q s (full B0 H pend) Bd := (rfl)
def vdO {P : Program} (E : Env P) (ops : List Oper) (B0 : Nat) (i : Nat) (act wat : List Nat) (rest : List Stp) (s : List Value) (H : AH) (Bd : Nat) (pend : List (Nat × List Value)) (wt : List (Nat × Op × List Value × Value)) (Q : List Value → AH → Nat → Prop) (l : List Oper) (n : Nat) : Prop :=
  opAt l n fun o => gd ops s o.guard (vdR E ops B0 i act wat rest s H Bd pend wt Q o) (vd E ops B0 rest (sput s o.dst undef) H Bd pend wt Q)
@[push_cast] theorem vd_cons (i : Nat) (act wat : List Nat) : vd E ops B0 (⟨i, act, wat⟩ :: rest) s H Bd pend wt Q = vdO E ops B0 i act wat rest s H Bd pend wt Q ops i := (rfl)
@[go_sem ↓] theorem vdO_s (i : Nat) (act wat : List Nat) (o : Oper) (l : List Oper) (n : Nat) : vdO E ops B0 i act wat rest s H Bd pend wt Q (o :: l) (n + 1) = vdO E ops B0 i act wat rest s H Bd pend wt Q l n := (rfl)
@[go_sem ↓] theorem vdO_z (i : Nat) (act wat : List Nat) (d : Option Nat) (op : Op) (ty : TypeId) (p : String) (af : Array Edge) (l : List Oper) : vdO E ops B0 i act wat rest s H Bd pend wt Q (⟨d, op, ty, p, af, none⟩ :: l) 0 =
    vdR E ops B0 i act wat rest s H Bd pend wt Q ⟨d, op, ty, p, af, none⟩ := (rfl)
@[go_sem ↓] theorem vdO_g (i : Nat) (act wat : List Nat) (d : Option Nat) (op : Op) (ty : TypeId) (p : String) (af : Array Edge) (j : Nat) (want : Bool) (l : List Oper) : vdO E ops B0 i act wat rest s H Bd pend wt Q (⟨d, op, ty, p, af, some (j, want)⟩ :: l) 0 =
    guardK (agard ops s j) want (vdR E ops B0 i act wat rest s H Bd pend wt Q ⟨d, op, ty, p, af, some (j, want)⟩) (vd E ops B0 rest (sput s d undef) H Bd pend wt Q) := (rfl)
@[congr] theorem vd_congr {s s' : List Value} {H H' : AH} {Bd Bd' : Nat} {pend pend' : List (Nat × List Value)} (h : s = s') (hH : H = H') (hB : Bd = Bd') (hp : pend = pend') : vd E ops B0 rest s H Bd pend wt Q = vd E ops B0 rest s' H' Bd' pend' wt Q := by rw [h, hH, hB, hp]
@[go_sem ↓] theorem gd_none (A B : Prop) : gd ops s none A B = A := (rfl)
@[go_sem ↓] theorem gd_some (j : Nat) (want : Bool) (A B : Prop) : gd ops s (some (j, want)) A B = guardK (agard ops s j) want A B := (rfl)
end
section
variable {P : Program} (E : Env P) (ops : List Oper) (B0 i : Nat) (act wat : List Nat) (rest : List Stp) (s : List Value) (H : AH) (Bd : Nat) (pend : List (Nat × List Value)) (wt : List (Nat × Op × List Value × Value)) (Q : List Value → AH → Nat → Prop)
  (d : Option Nat) (ty : TypeId) (p : String) (af : Array Edge) (g : Option (Nat × Bool))
theorem vdR_eff {o : Oper} (h : isEff o.op = true) : vdR E ops B0 i act wat rest s H Bd pend wt Q o =
    astep E o s (full B0 H (selA act pend)) Bd fun v H' Bd' =>
      clearOf B0 (dropA act pend) H' ∧ watched P wt wat (full B0 H' (dropA act pend)) ∧ vd E ops B0 rest (sput s o.dst v) H' Bd' (dropA act pend) wt Q := by rw [vdR, if_pos h]
theorem vdR_quiet {o : Oper} (h : isEff o.op = false) : vdR E ops B0 i act wat rest s H Bd pend wt Q o =
    Yld (aq P s (full B0 H pend) (B0 + i) o.op) fun r => vd E ops B0 rest (sput s o.dst r.1) H Bd (addP i r.2 pend) (addW i o.op s r.1 wt) Q := by rw [vdR, if_neg (by rw [h]; simp)]
@[go_sem ↓] theorem vdR_store (t : TypeId) (x y : Operand) : vdR E ops B0 i act wat rest s H Bd pend wt Q ⟨d, .store t x y, ty, p, af, g⟩ = astep E ⟨d, .store t x y, ty, p, af, g⟩ s (full B0 H (selA act pend)) Bd fun v H' Bd' =>
    clearOf B0 (dropA act pend) H' ∧ watched P wt wat (full B0 H' (dropA act pend)) ∧ vd E ops B0 rest (sput s d v) H' Bd' (dropA act pend) wt Q := vdR_eff (h := rfl) ..
@[go_sem ↓] theorem vdR_callv (f : Operand) (args : Array Operand) (ts : Array TypeId) : vdR E ops B0 i act wat rest s H Bd pend wt Q ⟨d, .call ⟨.value f, args, ts⟩, ty, p, af, g⟩ = astep E ⟨d, .call ⟨.value f, args, ts⟩, ty, p, af, g⟩ s (full B0 H (selA act pend)) Bd fun v H' Bd' =>
    clearOf B0 (dropA act pend) H' ∧ watched P wt wat (full B0 H' (dropA act pend)) ∧ vd E ops B0 rest (sput s d v) H' Bd' (dropA act pend) wt Q := vdR_eff (h := rfl) ..
@[go_sem ↓] theorem vdR_append (args : Array Operand) (ts : Array TypeId) : vdR E ops B0 i act wat rest s H Bd pend wt Q ⟨d, .call ⟨.builtin .append, args, ts⟩, ty, p, af, g⟩ = astep E ⟨d, .call ⟨.builtin .append, args, ts⟩, ty, p, af, g⟩ s (full B0 H (selA act pend)) Bd fun v H' Bd' =>
    clearOf B0 (dropA act pend) H' ∧ watched P wt wat (full B0 H' (dropA act pend)) ∧ vd E ops B0 rest (sput s d v) H' Bd' (dropA act pend) wt Q := vdR_eff (h := rfl) ..
@[go_sem ↓] theorem vdR_move (x : Operand) : vdR E ops B0 i act wat rest s H Bd pend wt Q ⟨d, .move x, ty, p, af, g⟩ = Yld (aq P s (full B0 H pend) (B0 + i) (.move x)) fun r => vd E ops B0 rest (sput s d r.1) H Bd (addP i r.2 pend) wt Q := vdR_quiet (h := rfl) ..
@[go_sem ↓] theorem vdR_assign (x : Operand) : vdR E ops B0 i act wat rest s H Bd pend wt Q ⟨d, .assign x, ty, p, af, g⟩ = Yld (aq P s (full B0 H pend) (B0 + i) (.assign x)) fun r => vd E ops B0 rest (sput s d r.1) H Bd (addP i r.2 pend) wt Q := vdR_quiet (h := rfl) ..
@[go_sem ↓] theorem vdR_pick (c x y : Operand) : vdR E ops B0 i act wat rest s H Bd pend wt Q ⟨d, .pick c x y, ty, p, af, g⟩ =
    Yld (abool (ev s c)) fun b => Cnd b (vd E ops B0 rest (sput s d (ev s x)) H Bd pend wt Q) (vd E ops B0 rest (sput s d (ev s y)) H Bd pend wt Q) := by
  rw [vdR_quiet (h := rfl)]
  simp only [aq, aval]
  cases ev s c <;> simp [abool, Yld, Cnd, addP, addW, readsHeap]
  rename_i b; cases b <;> simp
@[go_sem ↓] theorem vdR_load (t : TypeId) (x : Operand) : vdR E ops B0 i act wat rest s H Bd pend wt Q ⟨d, .load t x, ty, p, af, g⟩ = Yld (aq P s (full B0 H pend) (B0 + i) (.load t x)) fun r => vd E ops B0 rest (sput s d r.1) H Bd (addP i r.2 pend) ((i, .load t x, s, r.1) :: wt) Q := vdR_quiet (h := rfl) ..
@[go_sem ↓] theorem vdR_alloc (t : TypeId) : vdR E ops B0 i act wat rest s H Bd pend wt Q ⟨d, .alloc t, ty, p, af, g⟩ = Yld (aq P s (full B0 H pend) (B0 + i) (.alloc t)) fun r => vd E ops B0 rest (sput s d r.1) H Bd (addP i r.2 pend) wt Q := vdR_quiet (h := rfl) ..
@[go_sem ↓] theorem vdR_box (t : TypeId) (x : Operand) : vdR E ops B0 i act wat rest s H Bd pend wt Q ⟨d, .box t x, ty, p, af, g⟩ = Yld (aq P s (full B0 H pend) (B0 + i) (.box t x)) fun r => vd E ops B0 rest (sput s d r.1) H Bd (addP i r.2 pend) wt Q := vdR_quiet (h := rfl) ..
@[go_sem ↓] theorem vdR_build (t : TypeId) (parts : Array (Nat × Operand)) : vdR E ops B0 i act wat rest s H Bd pend wt Q ⟨d, .build t parts, ty, p, af, g⟩ = Yld (aq P s (full B0 H pend) (B0 + i) (.build t parts)) fun r => vd E ops B0 rest (sput s d r.1) H Bd (addP i r.2 pend) wt Q := vdR_quiet (h := rfl) ..
@[go_sem ↓] theorem vdR_buildSlice (t : TypeId) (len : Nat) (parts : Array (Nat × Operand)) : vdR E ops B0 i act wat rest s H Bd pend wt Q ⟨d, .buildSlice t len parts, ty, p, af, g⟩ = Yld (aq P s (full B0 H pend) (B0 + i) (.buildSlice t len parts)) fun r => vd E ops B0 rest (sput s d r.1) H Bd (addP i r.2 pend) wt Q := vdR_quiet (h := rfl) ..
@[go_sem ↓] theorem vdR_nilCheck (x : Operand) : vdR E ops B0 i act wat rest s H Bd pend wt Q ⟨d, .nilCheck x, ty, p, af, g⟩ = Yld (aq P s (full B0 H pend) (B0 + i) (.nilCheck x)) fun r => vd E ops B0 rest (sput s d r.1) H Bd (addP i r.2 pend) wt Q := vdR_quiet (h := rfl) ..
@[go_sem ↓] theorem vdR_binOp (op : BinOp) (t1 t2 : TypeId) (x y : Operand) : vdR E ops B0 i act wat rest s H Bd pend wt Q ⟨d, .binOp op t1 x y t2, ty, p, af, g⟩ = Yld (aq P s (full B0 H pend) (B0 + i) (.binOp op t1 x y t2)) fun r => vd E ops B0 rest (sput s d r.1) H Bd (addP i r.2 pend) wt Q := vdR_quiet (h := rfl) ..
@[go_sem ↓] theorem vdR_unOp (op : UnOp) (t : TypeId) (x : Operand) : vdR E ops B0 i act wat rest s H Bd pend wt Q ⟨d, .unOp op t x, ty, p, af, g⟩ = Yld (aq P s (full B0 H pend) (B0 + i) (.unOp op t x)) fun r => vd E ops B0 rest (sput s d r.1) H Bd (addP i r.2 pend) wt Q := vdR_quiet (h := rfl) ..
@[go_sem ↓] theorem vdR_convert (t u : TypeId) (x : Operand) : vdR E ops B0 i act wat rest s H Bd pend wt Q ⟨d, .convert t u x, ty, p, af, g⟩ = Yld (aq P s (full B0 H pend) (B0 + i) (.convert t u x)) fun r => vd E ops B0 rest (sput s d r.1) H Bd (addP i r.2 pend) ((i, .convert t u x, s, r.1) :: wt) Q := vdR_quiet (h := rfl) ..
@[go_sem ↓] theorem vdR_makeFunc (fn : Fn) (first caps : Array Operand) : vdR E ops B0 i act wat rest s H Bd pend wt Q ⟨d, .makeFunc fn first caps, ty, p, af, g⟩ = Yld (aq P s (full B0 H pend) (B0 + i) (.makeFunc fn first caps)) fun r => vd E ops B0 rest (sput s d r.1) H Bd (addP i r.2 pend) wt Q := vdR_quiet (h := rfl) ..
@[go_sem ↓] theorem vdR_makeInterface (t : TypeId) (x : Operand) : vdR E ops B0 i act wat rest s H Bd pend wt Q ⟨d, .makeInterface t x, ty, p, af, g⟩ = Yld (aq P s (full B0 H pend) (B0 + i) (.makeInterface t x)) fun r => vd E ops B0 rest (sput s d r.1) H Bd (addP i r.2 pend) wt Q := vdR_quiet (h := rfl) ..
@[go_sem ↓] theorem vdR_makeSlice (t : TypeId) (l c : Operand) : vdR E ops B0 i act wat rest s H Bd pend wt Q ⟨d, .makeSlice t l c, ty, p, af, g⟩ = Yld (aq P s (full B0 H pend) (B0 + i) (.makeSlice t l c)) fun r => vd E ops B0 rest (sput s d r.1) H Bd (addP i r.2 pend) wt Q := vdR_quiet (h := rfl) ..
@[go_sem ↓] theorem vdR_slice (t : TypeId) (x : Operand) (lo hi mx : Option Operand) : vdR E ops B0 i act wat rest s H Bd pend wt Q ⟨d, .slice t x lo hi mx, ty, p, af, g⟩ = Yld (aq P s (full B0 H pend) (B0 + i) (.slice t x lo hi mx)) fun r => vd E ops B0 rest (sput s d r.1) H Bd (addP i r.2 pend) wt Q := vdR_quiet (h := rfl) ..
@[go_sem ↓] theorem vdR_fieldAddr (t : TypeId) (x : Operand) (f : Nat) : vdR E ops B0 i act wat rest s H Bd pend wt Q ⟨d, .fieldAddr t x f, ty, p, af, g⟩ = Yld (aq P s (full B0 H pend) (B0 + i) (.fieldAddr t x f)) fun r => vd E ops B0 rest (sput s d r.1) H Bd (addP i r.2 pend) wt Q := vdR_quiet (h := rfl) ..
@[go_sem ↓] theorem vdR_field (t : TypeId) (x : Operand) (f : Nat) : vdR E ops B0 i act wat rest s H Bd pend wt Q ⟨d, .field t x f, ty, p, af, g⟩ = Yld (aq P s (full B0 H pend) (B0 + i) (.field t x f)) fun r => vd E ops B0 rest (sput s d r.1) H Bd (addP i r.2 pend) wt Q := vdR_quiet (h := rfl) ..
@[go_sem ↓] theorem vdR_indexAddr (t : TypeId) (x y : Operand) : vdR E ops B0 i act wat rest s H Bd pend wt Q ⟨d, .indexAddr t x y, ty, p, af, g⟩ = Yld (aq P s (full B0 H pend) (B0 + i) (.indexAddr t x y)) fun r => vd E ops B0 rest (sput s d r.1) H Bd (addP i r.2 pend) wt Q := vdR_quiet (h := rfl) ..
@[go_sem ↓] theorem vdR_index (t : TypeId) (x y : Operand) : vdR E ops B0 i act wat rest s H Bd pend wt Q ⟨d, .index t x y, ty, p, af, g⟩ = Yld (aq P s (full B0 H pend) (B0 + i) (.index t x y)) fun r => vd E ops B0 rest (sput s d r.1) H Bd (addP i r.2 pend) wt Q := vdR_quiet (h := rfl) ..
@[go_sem ↓] theorem vdR_extract (x : Operand) (k : Nat) : vdR E ops B0 i act wat rest s H Bd pend wt Q ⟨d, .extract x k, ty, p, af, g⟩ = Yld (aq P s (full B0 H pend) (B0 + i) (.extract x k)) fun r => vd E ops B0 rest (sput s d r.1) H Bd (addP i r.2 pend) wt Q := vdR_quiet (h := rfl) ..
@[go_sem ↓] theorem vdR_len (args : Array Operand) (ts : Array TypeId) : vdR E ops B0 i act wat rest s H Bd pend wt Q ⟨d, .call ⟨.builtin .len, args, ts⟩, ty, p, af, g⟩ = Yld (aq P s (full B0 H pend) (B0 + i) (.call ⟨.builtin .len, args, ts⟩)) fun r => vd E ops B0 rest (sput s d r.1) H Bd (addP i r.2 pend) wt Q := vdR_quiet (h := rfl) ..
@[go_sem ↓] theorem vdR_min (args : Array Operand) (ts : Array TypeId) : vdR E ops B0 i act wat rest s H Bd pend wt Q ⟨d, .call ⟨.builtin .min, args, ts⟩, ty, p, af, g⟩ = Yld (aq P s (full B0 H pend) (B0 + i) (.call ⟨.builtin .min, args, ts⟩)) fun r => vd E ops B0 rest (sput s d r.1) H Bd (addP i r.2 pend) wt Q := vdR_quiet (h := rfl) ..
@[go_sem ↓] theorem vdR_max (args : Array Operand) (ts : Array TypeId) : vdR E ops B0 i act wat rest s H Bd pend wt Q ⟨d, .call ⟨.builtin .max, args, ts⟩, ty, p, af, g⟩ = Yld (aq P s (full B0 H pend) (B0 + i) (.call ⟨.builtin .max, args, ts⟩)) fun r => vd E ops B0 rest (sput s d r.1) H Bd (addP i r.2 pend) wt Q := vdR_quiet (h := rfl) ..
end
section
variable (P : Program) (s : List Value) (H : AH) (m : Nat)
def aptrO {α : Type} (v : Value) (K : Nat → Nat → Option α) : Option α :=
  match v with
  | .pointer (some ⟨n, off, none⟩) => K n off
  | _ => none
@[go_sem ↓] theorem aptrO_eq {α : Type} (n off : Nat) (K : Nat → Nat → Option α) : aptrO (.pointer (some ⟨n, off, none⟩)) K = K n off := (rfl)
def aplaceO {α : Type} (v : Value) (K : Nat → Nat → Option α) (V : List Value → Option α) : Option α :=
  match v with
  | .pointer (some ⟨n, off, none⟩) => K n off
  | .func (.method _) _ cs => V cs.toList
  | _ => none
@[go_sem ↓] theorem aplaceO_eq {α : Type} (n off : Nat) (K : Nat → Nat → Option α) (V : List Value → Option α) : aplaceO (.pointer (some ⟨n, off, none⟩)) K V = K n off := (rfl)
@[go_sem ↓] theorem aplaceO_vp {α : Type} (cs : List Value) (K : Nat → Nat → Option α) (V : List Value → Option α) : aplaceO (VP cs) K V = V cs := by simp [aplaceO, VP]
@[congr] theorem aplaceO_congr {α : Type} {v v' : Value} (h : v = v') (K : Nat → Nat → Option α) (V : List Value → Option α) : aplaceO v K V = aplaceO v' K V := by rw [h]
@[go_sem ↓] theorem aq_load (t : TypeId) (x : Operand) : aq P s H m (.load t x) = (aloadV P t H (ev s x)).map (·, none) := by
  simp only [aq, aloadV]
  split
  · rename_i n off hx
    cases hH : H n <;> simp [hx, hH]
  · rename_i m fs cs hx
    simp [hx]
  · rename_i h1 h2
    split
    · rename_i n off hx; exact absurd hx (h1 _ _)
    · rename_i hx; exact absurd hx (h2 _ _ _)
    · rfl
@[go_sem ↓] theorem aq_convert (t u : TypeId) (x : Operand) : aq P s H m (.convert t u x) = (aconv P H t u (ev s x)).map (·, none) := (rfl)
@[go_sem ↓] theorem aq_alloc (t : TypeId) : aq P s H m (.alloc t) = (ask P (zeroValue t)).bind fun z => if (cellsL z).all plainV = true then some (.pointer (some ⟨m, 0, none⟩), some (cellsL z)) else none := by
  simp only [aq]; cases ask P (zeroValue t) <;> rfl
@[go_sem ↓] theorem aq_box (t : TypeId) (x : Operand) : aq P s H m (.box t x) = if isUnk (ev s x) = false then some (.pointer (some ⟨m, 0, none⟩), some (cellsL (ev s x))) else none := (rfl)
@[go_sem ↓] theorem aq_buildSlice (t : TypeId) (len : Nat) (parts : Array (Nat × Operand)) : aq P s H m (.buildSlice t len parts) = (abuildSlice P t len (parts.toList.map fun x => (x.1, ev s x.2))).map fun r => (.slice (some ⟨m, 0, some r.1⟩) len (len + 1), some r.2) := (rfl)
@[go_sem ↓] theorem aq_makeSlice (t : TypeId) (l c : Operand) : aq P s H m (.makeSlice t l c) = (amake P t (ev s l) (ev s c)).map fun r => (.slice (some ⟨m, 0, some r.1⟩) r.2.2.1 (r.2.2.2 + 1), some r.2.1) := (rfl)
@[go_sem ↓] theorem aq_move (x : Operand) : aq P s H m (.move x) = some (ev s x, none) := (rfl)
@[go_sem ↓] theorem aq_assign (x : Operand) : aq P s H m (.assign x) = some (ev s x, none) := (rfl)
@[go_sem ↓] theorem aq_pick (c x y : Operand) : aq P s H m (.pick c x y) = (abool (ev s c)).map fun b => (if b = true then ev s x else ev s y, none) := by
  simp only [aq, aval]; cases ev s c <;> rfl
@[go_sem ↓] theorem aq_binOp (op : BinOp) (t1 t2 : TypeId) (x y : Operand) : aq P s H m (.binOp op t1 x y t2) = (abinX P op t1 (ev s x) (ev s y)).map (·, none) := (rfl)
@[go_sem ↓] theorem aq_unOp (op : UnOp) (t : TypeId) (x : Operand) : aq P s H m (.unOp op t x) = (aunop op (ev s x)).map (·, none) := (rfl)
@[go_sem ↓] theorem aq_field (t : TypeId) (x : Operand) (f : Nat) : aq P s H m (.field t x f) = (afld P t (ev s x) f).map (·, none) := (rfl)
@[go_sem ↓] theorem aq_fieldAddr (t : TypeId) (x : Operand) (f : Nat) : aq P s H m (.fieldAddr t x f) = (afldAddr P t (ev s x) f).map (·, none) := (rfl)
@[go_sem ↓] theorem aq_index (t : TypeId) (x i : Operand) : aq P s H m (.index t x i) = (aidx P t (ev s x) (ev s i)).map (·, none) := (rfl)
@[go_sem ↓] theorem aq_indexAddr (t : TypeId) (x i : Operand) : aq P s H m (.indexAddr t x i) = (aidxAddr P t (ev s x) (ev s i)).map (·, none) := (rfl)
@[go_sem ↓] theorem aq_nilCheck (x : Operand) : aq P s H m (.nilCheck x) = (anilck (ev s x)).map (·, none) := (rfl)
@[go_sem ↓] theorem aq_extract (x : Operand) (i : Nat) : aq P s H m (.extract x i) = (aextract (ev s x) i).map (·, none) := (rfl)
@[go_sem ↓] theorem aq_makeInterface (t : TypeId) (x : Operand) : aq P s H m (.makeInterface t x) = (amkIface P t (ev s x)).map (·, none) := (rfl)
@[go_sem ↓] theorem aq_makeFunc (f : FuncId) (caps : Array Operand) : aq P s H m (.makeFunc (.func f) #[] caps) = some (.func (.func f) #[] (caps.toList.map (ev s)).toArray, none) := by
  simp [aq, aval]
@[go_sem ↓] theorem aq_build (t : TypeId) (parts : Array (Nat × Operand)) : aq P s H m (.build t parts) = (abuild P t (parts.toList.map fun x => (x.1, ev s x.2))).map (·, none) := (rfl)
@[go_sem ↓] theorem aq_slice (t : TypeId) (x : Operand) (lo hi mx : Option Operand) : aq P s H m (.slice t x lo hi mx) = (aslice P s t (ev s x) lo hi mx).map (·, none) := (rfl)
@[go_sem ↓] theorem aq_len (x : Operand) (t : TypeId) : aq P s H m (.call ⟨.builtin .len, #[x], #[t]⟩) = (alen P t (ev s x)).map (·, none) := (rfl)
@[go_sem ↓] theorem aq_min (x y : Operand) (ts : Array TypeId) : aq P s H m (.call ⟨.builtin .min, #[x, y], ts⟩) = (amin2 (ev s x) (ev s y)).map (·, none) := (rfl)
@[go_sem ↓] theorem aq_max (x y : Operand) (ts : Array TypeId) : aq P s H m (.call ⟨.builtin .max, #[x, y], ts⟩) = (amax2 (ev s x) (ev s y)).map (·, none) := (rfl)
@[push_cast] theorem obind_some {α β : Type} (x : α) (f : α → Option β) : (some x).bind f = f x := (rfl)
@[go_sem ↓] theorem Yld_map {α β : Type} (f : α → β) (x : Option α) (K : β → Prop) : Yld (x.map f) K = Yld x fun v => K (f v) := by
  cases x <;> simp [Yld]
@[go_sem ↓] theorem Yld_bind {α β : Type} (f : α → Option β) (x : Option α) (K : β → Prop) : Yld (x.bind f) K = Yld x fun v => Yld (f v) K := by
  cases x <;> simp [Yld]
end

/-! ### code -/
def lookP : List (Nat × List Nat × List Stp × JT) → Nat → Option (List Stp)
  | [], _ => none
  | (i, _, p, _) :: r, j => if j = i then some p else lookP r j
def lookO : List (Nat × List Nat × List Stp × JT) → Nat → List Nat
  | [], _ => []
  | (i, o, _, _) :: r, j => if j = i then o else lookO r j
def lookJ : List (Nat × List Nat × List Stp × JT) → Nat → Option JT
  | [], _ => none
  | (i, _, _, t) :: r, j => if j = i then some t else lookJ r j
deriving instance DecidableEq for Stp
def plansOK (PL : List (Nat × List Nat × List Stp × JT)) : Code → Bool
  | .seq x y => plansOK PL x && plansOK PL y
  | .cond _ x y => plansOK PL x && plansOK PL y
  | .block _ x => plansOK PL x
  | .region id ops true => match lookP PL id with
    | some plan => decide (mk ops (lookO PL id) [] [] none = some plan)
    | none => true
  | .region id ops false => match lookJ PL id with
    | some t => jtOK ops.toList t ops.toList && decide (t.cnt = ops.size)
    | none => true
  | _ => true

/-- A loop: behind it the condition stops. -/
def isLp : Code → Bool
  | .block _ (.loop _) => true
  | .seq _ y => isLp y
  | _ => false
def selT (b : Bool) (A B : List Value → AH → Nat → Prop) : List Value → AH → Nat → Prop :=
  match b with
  | true => A
  | false => B
@[go_sem ↓] theorem selT_true (A B : List Value → AH → Nat → Prop) : selT true A B = A := (rfl)
@[go_sem ↓] theorem selT_false (A B : List Value → AH → Nat → Prop) : selT false A B = B := (rfl)
@[congr] theorem selT_congr {b b' : Bool} (h : b = b') (A B : List Value → AH → Nat → Prop) : selT b A B = selT b' A B := by rw [h]
@[go_sem ↓] theorem isLp_loop (i : Nat) (c : Code) : isLp (.block i (.loop c)) = true := (rfl)
@[go_sem ↓] theorem isLp_region (i : Nat) (ops : Array Oper) (d : Bool) : isLp (.region i ops d) = false := (rfl)
@[go_sem ↓] theorem isLp_cond (c : Operand) (x y : Code) : isLp (.cond c x y) = false := (rfl)
@[go_sem ↓] theorem isLp_seq (x y : Code) : isLp (.seq x y) = isLp y := (rfl)
@[go_sem ↓] theorem isLp_skip : isLp .skip = false := (rfl)
@[go_sem ↓] theorem isLp_ret : isLp .ret = false := (rfl)
@[go_sem ↓] theorem isLp_exit (i : Nat) : isLp (.exit i) = false := (rfl)
@[go_sem ↓] theorem isLp_bseq (i : Nat) (x y : Code) : isLp (.block i (.seq x y)) = false := (rfl)
@[go_sem ↓] theorem isLp_bcond (i : Nat) (c : Operand) (x y : Code) : isLp (.block i (.cond c x y)) = false := (rfl)
@[go_sem ↓] theorem isLp_bregion (i j : Nat) (ops : Array Oper) (d : Bool) : isLp (.block i (.region j ops d)) = false := (rfl)
@[go_sem ↓] theorem isLp_bskip (i : Nat) : isLp (.block i .skip) = false := (rfl)
@[go_sem ↓] theorem isLp_bret (i : Nat) : isLp (.block i .ret) = false := (rfl)
@[go_sem ↓] theorem isLp_bexit (i j : Nat) : isLp (.block i (.exit j)) = false := (rfl)
@[go_sem ↓] theorem isLp_bblock (i j : Nat) (c : Code) : isLp (.block i (.block j c)) = false := (rfl)

/-- The condition under which code does what Q says. -/
def vq {P : Program} (E : Env P) (PL : List (Nat × List Nat × List Stp × JT)) (N0 : Nat) : Code → APost → List Value → AH → Nat → Prop
  | .skip, Q => Q .normal
  | .seq x y, Q => vq E PL N0 x (thenQ (selT (isLp x) (Tr P N0 y Q) (vq E PL N0 y Q)) Q)
  | .cond c x y, Q => fun s H Bd => match ev s c with
    | .bool b => Cnd b (vq E PL N0 x Q s H Bd) (vq E PL N0 y Q s H Bd)
    | _ => False
  | .block id c, Q => vq E PL N0 c (inBlockQ id Q)
  | .loop c, Q => fun s H Bd => Tr P N0 (.loop c) Q s H Bd
  | .exit id, Q => Q (.exit id)
  | .ret, Q => Q .ret
  | .region id ops false, Q => fun s H Bd => match lookJ PL id with
    | some t => vopsJ E ops.toList t ops.toList s H Bd (Q .normal)
    | none => vops E ops.toList ops.toList s H Bd (Q .normal)
  | .region id ops true, Q => fun s H Bd => match lookP PL id with
    | some plan => vd E ops.toList Bd plan s H (Bd + ops.size) [] [] (Q .normal)
    | none => Tr P N0 (.region id ops true) Q s H Bd
  | c, Q => fun s H Bd => Tr P N0 c Q s H Bd

theorem vq_sound {P : Program} (hP : POk P) {E : Env P} (PL : List (Nat × List Nat × List Stp × JT)) {N0 : Nat} : ∀ (c : Code) (Q : APost) (s : List Value) (H : AH) (Bd : Nat), plansOK PL c = true → vq E PL N0 c Q s H Bd → Tr P N0 c Q s H Bd
  | .skip, Q, s, H, Bd, _, h => fun hN A ι a w hst => wp_skip ⟨ι, s, H, Bd, h, hN, hst, Keep.refl A w, Agr.refl _ _, NI.refl _⟩
  | .seq x y, Q, s, H, Bd, hp, h => fun hN A ι a w hst => by
    simp only [plansOK, Bool.and_eq_true] at hp
    refine wp_seq (wp_mono (vq_sound hP PL x _ s H Bd hp.1 h hN A ι a w hst) fun e a' w' ⟨ι', s', H', Bd', h1, h2, h3, h4, h5, h6⟩ => ?_)
    cases e with
    | normal =>
      simp only [Exit.then]
      have h1' : Tr P N0 y Q s' H' Bd' := by
        simp only [thenQ_normal] at h1
        cases hl : isLp x with
        | true => rw [hl] at h1; exact h1
        | false => rw [hl] at h1; exact vq_sound hP PL y Q s' H' Bd' hp.2 h1
      refine wp_mono (h1' h2 A ι' a' w' h3) fun e2 a2 w2 ⟨ι2, s2, H2, Bd2, g1, g2, g3, g4, g5, g6⟩ => ?_
      exact ⟨ι2, s2, H2, Bd2, g1, g2, g3, h4.trans g4, h5.trans g5 (Nat.le_refl _), h6.trans g6⟩
    | _ => exact ⟨ι', s', H', Bd', h1, h2, h3, h4, h5, h6⟩
  | .cond c x y, Q, s, H, Bd, hp, h => fun hN A ι a w hst => by
    simp only [plansOK, Bool.and_eq_true] at hp
    unfold vq at h
    split at h
    · rename_i b hb
      have hc := hst.slots.ev c
      rw [hb] at hc
      generalize hcv : a.eval c = cv at hc
      cases hc
      refine wp_cond hcv ?_
      cases b with
      | true => exact vq_sound hP PL x Q s H Bd hp.1 (h.1 rfl) hN A ι a w hst
      | false => exact vq_sound hP PL y Q s H Bd hp.2 (h.2 rfl) hN A ι a w hst
    · cases h
  | .block id c, Q, s, H, Bd, hp, h => fun hN A ι a w hst => by
    simp only [plansOK] at hp
    refine wp_block (wp_mono (vq_sound hP PL c _ s H Bd hp h hN A ι a w hst) fun e a' w' ⟨ι', s', H', Bd', h1, h2⟩ => ?_)
    cases e with
    | exit id' =>
      simp only [inBlockQ, Exit.inBlock] at h1 ⊢
      by_cases hid : id' = id
      · rw [if_pos hid] at h1; rw [if_pos hid]; exact ⟨ι', s', H', Bd', h1, h2⟩
      · rw [if_neg hid] at h1; rw [if_neg hid]; exact ⟨ι', s', H', Bd', h1, h2⟩
    | _ => exact ⟨ι', s', H', Bd', h1, h2⟩
  | .loop c, Q, s, H, Bd, _, h => h
  | .exit id, Q, s, H, Bd, _, h => fun hN A ι a w hst => wp_exit ⟨ι, s, H, Bd, h, hN, hst, Keep.refl A w, Agr.refl _ _, NI.refl _⟩
  | .ret, Q, s, H, Bd, _, h => fun hN A ι a w hst => wp_ret ⟨ι, s, H, Bd, h, hN, hst, Keep.refl A w, Agr.refl _ _, NI.refl _⟩
  | .region id ops false, Q, s, H, Bd, hp, h => fun hN A ι a w hst => by
    unfold vq at h
    simp only [plansOK] at hp
    split at h
    · rename_i t hl
      rw [hl] at hp
      simp only [Bool.and_eq_true, decide_eq_true_eq] at hp
      refine wp_region_list (vopsJ_sound hP t ops.toList s H Bd _ hp.1 h A ι a w hst fun s' H' Bd' ι' a' w' h1 _ h2 h3 h4 h5 h6 => ?_)
      rw [hp.2, List.drop_of_length_le (by simp)]
      exact ⟨ι', s', H', Bd', h1, Nat.le_trans hN h2, h3, h4, fun n hn => h5 n (Nat.lt_of_lt_of_le hn hN), h6⟩
    · refine wp_region_list (vops_sound hP ops.toList s H Bd h A ι a w hst fun s' H' Bd' ι' a' w' h1 h2 h3 h4 h5 h6 => ?_)
      exact ⟨ι', s', H', Bd', h1, Nat.le_trans hN h2, h3, h4, fun n hn => h5 n (Nat.lt_of_lt_of_le hn hN), h6⟩
  | .region id ops true, Q, s, H, Bd, hp, h => by
    unfold vq at h
    simp only [plansOK] at hp
    split at h
    · rename_i plan hl
      rw [hl] at hp
      exact tr_draw hP E _ plan (of_decide_eq_true hp) h
    · exact h
  | .rangeFunc .., _, _, _, _, _, h => h
  | .scope _, _, _, _, _, _, h => h
  | .label _, _, _, _, _, _, h => h
  | .goto _, _, _, _, _, _, h => h
  | .refuse _, _, _, _, _, _, h => h

section
variable {P : Program} (E : Env P) (PL : List (Nat × List Nat × List Stp × JT)) (N0 : Nat) (Q : APost) (s : List Value) (H : AH) (Bd : Nat)
@[go_sem ↓] theorem vq_skip : vq E PL N0 .skip Q s H Bd = Q .normal s H Bd := (rfl)
@[go_sem ↓] theorem vq_seq (x y : Code) : vq E PL N0 (.seq x y) Q s H Bd = vq E PL N0 x (thenQ (selT (isLp x) (Tr P N0 y Q) (vq E PL N0 y Q)) Q) s H Bd := (rfl)
@[go_sem ↓] theorem vq_cond (c : Operand) (x y : Code) : vq E PL N0 (.cond c x y) Q s H Bd = Yld (abool (ev s c)) fun b => Cnd b (vq E PL N0 x Q s H Bd) (vq E PL N0 y Q s H Bd) := by
  simp only [vq]
  cases ev s c <;> simp [abool, Yld]
@[go_sem ↓] theorem vq_block (id : Nat) (c : Code) : vq E PL N0 (.block id c) Q s H Bd = vq E PL N0 c (inBlockQ id Q) s H Bd := (rfl)
@[go_sem ↓] theorem vq_loop (c : Code) : vq E PL N0 (.loop c) Q s H Bd = Tr P N0 (.loop c) Q s H Bd := (rfl)
@[go_sem ↓] theorem vq_exit (id : Nat) : vq E PL N0 (.exit id) Q s H Bd = Q (.exit id) s H Bd := (rfl)
@[go_sem ↓] theorem vq_ret : vq E PL N0 .ret Q s H Bd = Q .ret s H Bd := (rfl)
def regn {P : Program} (E : Env P) (t : Option JT) (ops : List Oper) (s : List Value) (H : AH) (Bd : Nat) (K : List Value → AH → Nat → Prop) : Prop :=
  match t with
  | some t => vopsJ E ops t ops s H Bd K
  | none => vops E ops ops s H Bd K
@[go_sem ↓] theorem vq_region (id : Nat) (ops : List Oper) : vq E PL N0 (.region id ops.toArray false) Q s H Bd = regn E (lookJ PL id) ops (idS s) H Bd (Q .normal) := by
  simp only [vq, regn, idS]
@[congr] theorem regn_congr {t t' : Option JT} (h : t = t') (ops : List Oper) (K : List Value → AH → Nat → Prop) : regn E t ops s H Bd K = regn E t' ops s H Bd K := by rw [h]
@[go_sem ↓] theorem regn_some (t : JT) (ops : List Oper) (K : List Value → AH → Nat → Prop) : regn E (some t) ops s H Bd K = vopsJ E ops t ops (idS s) H Bd K := (rfl)
@[go_sem ↓] theorem regn_none (ops : List Oper) (K : List Value → AH → Nat → Prop) : regn E none ops s H Bd K = vops E ops ops (idS s) H Bd K := (rfl)
@[push_cast] theorem lookJ_cons (i : Nat) (o : List Nat) (p : List Stp) (t : JT) (r : List (Nat × List Nat × List Stp × JT)) (j : Nat) : lookJ ((i, o, p, t) :: r) j = if j = i then some t else lookJ r j := (rfl)
@[push_cast] theorem lookJ_nil (j : Nat) : lookJ [] j = none := (rfl)
/-! ### groups -/
section
variable (ops rest : List Oper) (K : List Value → AH → Nat → Prop)
@[congr] theorem vopsJ_congr {s s' : List Value} {H H' : AH} {Bd Bd' : Nat} (h : s = s') (hH : H = H') (hB : Bd = Bd') (t : JT) : vopsJ E ops t rest s H Bd K = vopsJ E ops t rest s' H' Bd' K := by rw [h, hH, hB]
@[go_sem ↓] theorem vopsJ_nil (l : List Oper) : vopsJ E ops .nil l s H Bd K = K s H Bd := (rfl)
@[go_sem ↓] theorem vopsJ_k0 (t : JT) (l : List Oper) : vopsJ E ops (.k 0 t) l s H Bd K = vopsJ E ops t l s H Bd K := (rfl)
@[go_sem] theorem vopsJ_op (n : Nat) (t : JT) (d : Option Nat) (op : Op) (ty : TypeId) (p : String) (af : Array Edge) : vopsJ E ops (.k (n + 1) t) (⟨d, op, ty, p, af, none⟩ :: rest) s H Bd K =
    astep E ⟨d, op, ty, p, af, none⟩ s H Bd fun v H Bd => vopsJ E ops (.k n t) rest (idS (sput s d v)) H Bd K := (rfl)
@[go_sem] theorem vopsJ_guard (n : Nat) (t : JT) (d : Option Nat) (op : Op) (ty : TypeId) (p : String) (af : Array Edge) (j : Nat) (want : Bool) : vopsJ E ops (.k (n + 1) t) (⟨d, op, ty, p, af, some (j, want)⟩ :: rest) s H Bd K =
    guardK (agard ops s j) want (astep E ⟨d, op, ty, p, af, some (j, want)⟩ s H Bd fun v H Bd => vopsJ E ops (.k n t) rest (idS (sput s d v)) H Bd K) (vopsJ E ops (.k n t) rest (idS (sput s d undef)) H Bd K) := by
  simp only [JT.k, vopsJ, guardK, idS]; rfl
def dropL : Nat → List Oper → List Oper
  | 0, l => l
  | _ + 1, [] => []
  | n + 1, _ :: l => dropL n l
theorem dropL_eq : ∀ (n : Nat) (l : List Oper), l.drop n = dropL n l
  | 0, l => rfl
  | _ + 1, [] => rfl
  | n + 1, _ :: l => by rw [dropL, ← dropL_eq n l]; rfl
@[go_sem ↓] theorem dropL_z (l : List Oper) : dropL 0 l = l := (rfl)
@[go_sem ↓] theorem dropL_s (n : Nat) (o : Oper) (l : List Oper) : dropL (n + 1) (o :: l) = dropL n l := (rfl)
/-- A group's value, then the rest. -/
def JS (want : Bool) (p : Prop) (X K : Bool → Prop) : Prop := JE want p X K
@[congr] theorem JS_congr {p p' : Prop} (h : p = p') (want : Bool) (X K : Bool → Prop) : JS want p X K = JS want p' X K := by rw [h]
def JX (X K : Bool → Prop) : Prop := ∃ r : Bool, X r ∧ K r
def JU (want : Bool) (p : Prop) (X K : Bool → Prop) : Prop := JE want p X K
def JR (E : Env P) (ops : List Oper) (t : JT) (l : List Oper) (s : List Value) (H : AH) (Bd : Nat) (K : List Value → AH → Nat → Prop) : Prop := vopsJ E ops t l s H Bd K
@[congr] theorem JR_congr (t : JT) {l l' : List Oper} {s s' : List Value} (hl : l = l') (hs : s = s') : JR E ops t l s H Bd K = JR E ops t l' s' H Bd K := by rw [hl, hs]
@[go_sem] theorem JR_eq (t : JT) (l : List Oper) : JR E ops t l s H Bd K = vopsJ E ops t l (idS s) H Bd K := (rfl)
def gKs (pg : Option (Nat × Bool)) (s : List Value) (A B : Prop) : Prop := gK pg s A B
@[go_sem ↓] theorem gKs_none (A B : Prop) : gKs none s A B = A := (rfl)
def gKv (v : Value) (w : Bool) (A B : Prop) : Prop :=
  match v with
  | .bool b => Cnd (b == w) A B
  | .tuple _ => B
  | _ => False
@[congr] theorem gKv_congr {v v' : Value} (h : v = v') (w : Bool) (A B : Prop) : gKv v w A B = gKv v' w A B := by rw [h]
@[go_sem ↓] theorem gKs_some (c : Nat) (w : Bool) (A B : Prop) : gKs (some (c, w)) s A B = gKv (sget s c) w A B := (rfl)
@[go_sem ↓] theorem gKv_bool (b w : Bool) (A B : Prop) : gKv (.bool b) w A B = Cnd (b == w) A B := (rfl)
@[go_sem ↓] theorem gKv_tup (vs : Array Value) (w : Bool) (A B : Prop) : gKv (.tuple vs) w A B = B := (rfl)
@[go_sem] theorem vopsJ_grp (want : Bool) (c d n : Nat) (D : List Nat) (pd : Nat) (pg : Option (Nat × Bool)) (g t : JT) (l : List Oper) : vopsJ E ops (.grp want c d n D pd pg g t) l s H Bd K =
    Yld (abool (sget s c)) fun b => JS want (PB b) (fun r => vopsJ E ops g l (idS s) H Bd fun s' H' Bd' => H' = H ∧ Bd' = Bd ∧ sget s' d = .bool r)
      fun r => gKs pg (forget D s) (JR E ops t (dropL (n + 1) l) (sset (forget D s) pd (.bool r)) H Bd K) (JR E ops t (dropL (n + 1) l) (sset (forget D s) pd undef) H Bd K) := by
  simp only [vopsJ, dropL_eq]; rfl
end
@[go_sem ↓] theorem forget_nil : forget [] s = s := (rfl)
@[go_sem ↓] theorem forget_cons (d : Nat) (D : List Nat) : forget (d :: D) s = forget D (sset s d unk) := (rfl)
@[congr] theorem JU_congr {p p' : Prop} (h : p = p') (want : Bool) (X K : Bool → Prop) : JU want p X K = JU want p' X K := by rw [h]
@[go_sem high] theorem JS_tT (X K : Bool → Prop) : JS true True X K = JX X K := by simp [JS, JE, JX]
@[go_sem high] theorem JS_tF (X K : Bool → Prop) : JS true False X K = K false := by simp [JS, JE]
@[go_sem high] theorem JS_fT (X K : Bool → Prop) : JS false True X K = K true := by simp [JS, JE]
@[go_sem high] theorem JS_fF (X K : Bool → Prop) : JS false False X K = JX X K := by simp [JS, JE, JX]
@[go_sem 900] theorem JS_tP {p : Prop} (h : Asm p) (X K : Bool → Prop) : JS true p X K = JX X K := by
  have h : p := h
  simp [JS, JE, JX, h]
@[go_sem 890] theorem JS_tN {p : Prop} (h : Asm (¬ p)) (X K : Bool → Prop) : JS true p X K = K false := by
  have h : ¬ p := h
  simp [JS, JE, JX, h]
@[go_sem 900] theorem JS_fP {p : Prop} (h : Asm p) (X K : Bool → Prop) : JS false p X K = K true := by
  have h : p := h
  simp [JS, JE, JX, h]
@[go_sem 890] theorem JS_fN {p : Prop} (h : Asm (¬ p)) (X K : Bool → Prop) : JS false p X K = JX X K := by
  have h : ¬ p := h
  simp [JS, JE, JX, h]
@[go_sem low] theorem JS_eq (want : Bool) (p : Prop) (X K : Bool → Prop) : JS want p X K = JU want (Kn p) X K := (rfl)
def JH (h : Prop) (c : Bool) (X K : Bool → Prop) : Prop := ∃ r : Bool, (h → X r) ∧ (¬ h → r = c) ∧ K r
@[go_sem high] theorem JU_tT (X K : Bool → Prop) : JU true True X K = JX X K := by simp [JU, JE, JX]
@[go_sem high] theorem JU_tF (X K : Bool → Prop) : JU true False X K = K false := by simp [JU, JE]
@[go_sem high] theorem JU_fT (X K : Bool → Prop) : JU false True X K = K true := by simp [JU, JE]
@[go_sem high] theorem JU_fF (X K : Bool → Prop) : JU false False X K = JX X K := by simp [JU, JE, JX]
@[go_sem] theorem JU_fn (p : Prop) (X K : Bool → Prop) : JU false (¬ p) X K = JH p true X K := by
  by_cases h : p <;> simp [JU, JE, JH, h]
@[go_sem low] theorem JU_f (p : Prop) (X K : Bool → Prop) : JU false p X K = JH (¬ p) true X K := by
  by_cases h : p <;> simp [JU, JE, JH, h]
@[go_sem low] theorem JU_t (p : Prop) (X K : Bool → Prop) : JU true p X K = JH p false X K := by
  by_cases h : p <;> simp [JU, JE, JH, h]
@[congr] theorem JH_congr {p : Prop} {X X' : Bool → Prop} (c : Bool) (K : Bool → Prop) (h : p → ∀ r, X r = X' r) : JH p c X K = JH p c X' K := by
  unfold JH
  refine propext ⟨fun ⟨r, a, b⟩ => ⟨r, fun hp => h hp r ▸ a hp, b⟩, fun ⟨r, a, b⟩ => ⟨r, fun hp => (h hp r).symm ▸ a hp, b⟩⟩
@[congr] theorem JX_congr {X X' : Bool → Prop} (K : Bool → Prop) (h : ∀ r, X r = X' r) : JX X K = JX X' K := by
  unfold JX
  simp only [h]
@[go_sem] theorem JX_and (q : Prop) (Y K : Bool → Prop) : JX (fun r => q ∧ Y r) K = (q ∧ JX Y K) := by
  simp only [JX, and_assoc, exists_and_left]
@[go_sem] theorem JX_eq (e : Bool) (K : Bool → Prop) : JX (fun r => e = r) K = K e := by simp [JX]
@[go_sem] theorem JH_and (h q : Prop) (c : Bool) (Y K : Bool → Prop) : JH h c (fun r => q ∧ Y r) K = (Imp h q ∧ JH h c Y K) := by
  unfold JH Imp
  refine propext ⟨fun ⟨r, a, b⟩ => ⟨fun hp => (a hp).1, r, fun hp => (a hp).2, b⟩, fun ⟨k, r, a, b⟩ => ⟨r, fun hp => ⟨k hp, a hp⟩, b⟩⟩
@[go_sem] theorem JH_eqA (h : Prop) [Decidable h] (e : Bool) (K : Bool → Prop) : JH h false (fun r => e = r) K = K (decide h && e) := by
  by_cases hp : h <;> simp [JH, hp]
@[go_sem] theorem JH_eqO (p : Prop) [Decidable p] (e : Bool) (K : Bool → Prop) : JH (¬ p) true (fun r => e = r) K = K (decide p || e) := by
  by_cases hp : p <;> simp [JH, hp]
@[go_sem low] theorem JH_eqN (p : Prop) [Decidable p] (e : Bool) (K : Bool → Prop) : JH p true (fun r => e = r) K = K (!decide p || e) := by
  by_cases hp : p <;> simp [JH, hp]
def lenN (l : List Oper) : Nat := l.length
@[push_cast] theorem lenN_nil : lenN [] = 0 := (rfl)
@[push_cast] theorem lenN_cons (o : Oper) (l : List Oper) : lenN (o :: l) = lenN l + 1 := (rfl)
def drawn {P : Program} (E : Env P) (N0 : Nat) (pl : Option (List Stp)) (id : Nat) (ops : List Oper) (n : Nat) (Q : APost) (s : List Value) (H : AH) (Bd : Nat) : Prop :=
  match pl with
  | some plan => vd E ops Bd plan (idS s) H (Bd + n) [] [] (Q .normal)
  | none => Tr P N0 (.region id ops.toArray true) Q s H Bd
@[go_sem ↓] theorem vq_draw (id : Nat) (ops : List Oper) : vq E PL N0 (.region id ops.toArray true) Q s H Bd = drawn E N0 (lookP PL id) id ops (lenN ops) Q s H Bd := by
  have hl : lenN ops = ops.length := (rfl)
  simp only [vq, drawn, idS, hl, List.size_toArray]
@[go_sem ↓] theorem drawn_some (plan : List Stp) (id n : Nat) (ops : List Oper) : drawn E N0 (some plan) id ops n Q s H Bd = vd E ops Bd plan (idS s) H (Bd + n) [] [] (Q .normal) := (rfl)
@[congr] theorem drawn_congr {pl pl' : Option (List Stp)} {n n' : Nat} (h : pl = pl') (hn : n = n') (id : Nat) (ops : List Oper) : drawn E N0 pl id ops n Q s H Bd = drawn E N0 pl' id ops n' Q s H Bd := by rw [h, hn]
@[push_cast] theorem lookP_cons (i : Nat) (o : List Nat) (p : List Stp) (t : JT) (r : List (Nat × List Nat × List Stp × JT)) (j : Nat) : lookP ((i, o, p, t) :: r) j = if j = i then some p else lookP r j := (rfl)
@[push_cast] theorem lookP_nil (j : Nat) : lookP [] j = none := (rfl)
end

@[push_cast] theorem Le_rfl (H : AH) : Le H H = True := eq_true (Le.refl H)
theorem Le_upd {H G : AH} {B n : Nat} (hb : HB H B) (b : Option Blk) (h : B ≤ n) : Le H (upd G n b) = Le H G := by
  refine propext ⟨fun k m c hm => ?_, fun k m c hm => ?_⟩
  all_goals
    have hne : m ≠ n := by
      intro e
      subst e
      rw [hb.fresh m h] at hm
      cases hm
  · have := k m c hm
    rwa [upd_ne _ _ hne] at this
  · rw [upd_ne _ _ hne]
    exact k m c hm
theorem and_pos {p q : Prop} (h : p) : (p ∧ q) = q := by simp [h]
theorem HB.lt {H : AH} {B n : Nat} (hb : HB H B) {b : Blk} (h : H n = some b) : n < B := by
  rcases Nat.lt_or_ge n B with h1 | h1
  · exact h1
  · rw [hb.fresh n h1] at h; cases h
@[go_sem ↓] theorem astoreK_eq (P : Program) (t : TypeId) (H : AH) (n off : Nat) (vs : List Value) (K : AH → Prop) : astoreK P t H n off vs K =
    Yld (H n) fun b => (b.own = true ∧ ask P (sizeOf t) = some vs.length ∧ vs.all cellOK = true ∧ off + vs.length ≤ b.cells.length) ∧ K (upd H n (some ⟨lset b.cells off vs, true⟩)) := (rfl)
theorem zmake_len (c : Nat) (z : List Value) : (zmake c z).length = c * z.length := by simp [zmake]
theorem amake_eq {P : Program} {t e : TypeId} {k : Nat} {z : Value} (h : ask P (underlying t) = some (.slice e)) (hk : ask P (sizeOf e) = some k) (hz : ask P (zeroValue e) = some z) (h1 : (cellsL z).length = k) (h2 : (cellsL z).all plainV = true) (h3 : e < P.types.size) (q q' : IntKind) (n c : Int) :
    amake P t (.int q n) (.int q' c) = if 0 ≤ n ∧ n ≤ c ∧ c ≤ 1073741824 then some (k, zmake c.toNat (cellsL z), n.toNat, c.toNat) else none := by
  simp [amake, h, hk, hz, h1, h2, h3]
@[go_sem ↓] theorem aresults_cell (P : Program) (s : List Value) (H : AH) (a : Nat) (t : TypeId) (rs : List ResultVar) : aresults P (.cell a t :: rs) s H = aptrO (sget s a) fun n off => (H n).bind fun b => (aload P t b off).bind fun v => (aresults P rs s H).map (v :: ·) := by
  have key : aresult P s H (.cell a t) = aptrO (sget s a) fun n off => (H n).bind fun b => aload P t b off := by
    simp only [aresult, aptrO]
    split
    · split <;> simp_all
    · split <;> simp_all
  simp only [aresults, key]
  generalize aresults P rs s H = q
  unfold aptrO
  generalize sget s a = y
  cases y with
  | pointer p =>
    cases p with
    | none => rfl
    | some p =>
      obtain ⟨n, off, sp⟩ := p
      cases sp with
      | some _ => rfl
      | none =>
        simp only
        cases H n with
        | none => rfl
        | some b =>
          simp only [Option.bind_some]
          cases aload P t b off with
          | none => rfl
          | some v => cases q <;> rfl
  | _ => rfl
attribute [push_cast] Nat.zero_add
attribute [push_cast] Bool.and_self Bool.true_and Bool.and_true
attribute [push_cast] Int.toNat_natCast Nat.mul_one Nat.add_zero Value.int.injEq Value.bool.injEq Value.string.injEq true_and and_true decide_eq_true_eq decide_eq_false_iff_not if_true if_false

theorem vq_conv {P : Program} (hP : POk P) {E : Env P} {PL : List (Nat × List Nat × List Stp × JT)} {N0 : Nat} {c : Code} {Q : APost} {s : List Value} {H : AH} {Bd : Nat} (hp : plansOK PL c = true) (h : vq E PL N0 c Q s H Bd) : Tr P N0 c Q s H Bd := vq_sound hP PL c Q s H Bd hp h

/-- A function that changes nothing and makes nothing. -/
theorem fn_pure {P : Program} (hP : POk P) (E : Env P) (PL : List (Nat × List Nat × List Stp × JT)) {f : FuncId} {fn : Func} {c : Code} {args : List Value} {H : AH} {Bd : Nat} {K : Value → AH → Nat → Prop} (r0 : Value) (hK : K r0 H Bd)
    (hf : P.funcs[f]? = some fn) (hb : fn.body = some c) {rs : List ResultVar} (hrs : fn.results.toList = rs) {m : Nat} (hm : fn.ntmps = m) (hm2 : args.length ≤ m) (hent : Enters P f) (hp : plansOK PL c = true) (hnb : (∀ v ∈ args, NB Bd v) → HB H Bd → NB Bd r0)
    (h : HB H Bd → (∀ v ∈ args, NB Bd v) → vq E PL Bd c (pureQ P rs H r0) (aS m undef (idx 0 args)) H Bd) : SCalls P f args H Bd K := by
  subst hm
  rw [← start_aS args _ hm2] at h
  refine scalls_of_tr hf hb hrs hent fun hh ha => (vq_sound hP PL c _ _ H Bd hp (h hh ha)).conv fun e s' H' Bd' hle hq => ?_
  have key : PureQ P rs H r0 s' H' Bd' → RetQ P rs H Bd K s' H' Bd' := fun ⟨vs, h1, h2, h3⟩ =>
    ⟨vs, h1, r0, _, H, Bd, h3, fun n b hn (hx : H n = none) => (by rw [hx] at hn; cases hn), h2, Nat.le_refl _, .inr ⟨hnb ha hh, hh, hK⟩⟩
  cases e with
  | normal => exact key hq
  | ret => exact key hq
  | _ => exact hq.elim
/-- Any function. -/
theorem fn_any {P : Program} (hP : POk P) (E : Env P) (PL : List (Nat × List Nat × List Stp × JT)) {f : FuncId} {fn : Func} {c : Code} {args : List Value} {H : AH} {Bd : Nat} {post : Value → AH → Nat → Prop} (hf : P.funcs[f]? = some fn) (hb : fn.body = some c) {rs : List ResultVar} (hrs : fn.results.toList = rs) {m : Nat} (hm : fn.ntmps = m) (hm2 : args.length ≤ m) (hent : Enters P f) (hp : plansOK PL c = true)
    (h : HB H Bd → (∀ v ∈ args, NB Bd v) → vq E PL Bd c (fnQ P rs H Bd post) (aS m undef (idx 0 args)) H Bd) : SCalls P f args H Bd post := by
  subst hm
  rw [← start_aS args _ hm2] at h
  exact scalls_of_tr hf hb hrs hent fun hh ha => vq_sound hP PL c _ _ H Bd hp (h hh ha)

/-! ### lists that are finished -/
/-- Slots, some of whose own blocks become lists that are never written again, and some of which are forgotten. -/
def PubL (H : AH) (S : Nat → Prop) : List Value → List Value → Prop
  | [], [] => True
  | x :: xs, y :: ys => (y = unk ∨ Pub H S x y) ∧ PubL H S xs ys
  | _, _ => False
theorem PubL.get {H : AH} {S : Nat → Prop} : ∀ (s s' : List Value), PubL H S s s' → s.length = s'.length ∧ ∀ (i : Nat) x y, s[i]? = some x → s'[i]? = some y → y = unk ∨ Pub H S x y
  | [], [], _ => ⟨rfl, fun i x y h => by simp at h⟩
  | x :: xs, y :: ys, h => by
    obtain ⟨h1, h2⟩ := PubL.get xs ys h.2
    refine ⟨by simp [h1], fun i a b ha hb => ?_⟩
    cases i with
    | zero =>
      simp only [List.getElem?_cons_zero, Option.some.injEq] at ha hb
      subst ha; subst hb
      exact h.1
    | succ i => exact h2 i a b (by simpa using ha) (by simpa using hb)
  | [], _ :: _, h => h.elim
  | _ :: _, [], h => h.elim

theorem Tr.pub {P : Program} {N0 : Nat} {c : Code} {Q : APost} {s s' : List Value} {H H' : AH} {Bd Bd' : Nat} (S : Nat → Prop) (hs : PubL H S s s') (hle : Le H' H) (hS : ∀ n b, H' n = some b → ¬ S n) (hB : Bd ≤ Bd') (h : Tr P N0 c Q s' H' Bd') :
    Tr P N0 c Q s H Bd := by
  intro hN A ι a w hst
  obtain ⟨h1, h2⟩ := PubL.get s s' hs
  have hst' : St A (frz ι H S) s' H' Bd' a w := by
    refine ⟨(hst.rel.pub hle hS).raise hB, ⟨by rw [← h1]; exact hst.slots.1, fun i v v' g1 g2 => ?_⟩, hst.defers⟩
    have hlt : i < s.length := by have := (List.getElem?_eq_some_iff.1 g1).1; omega
    rcases h2 i s[i] v (List.getElem?_eq_getElem hlt) g1 with rfl | hp
    · exact .unk _
    · exact VR.pub hst.rel hp (hst.slots.2 i _ v' (List.getElem?_eq_getElem hlt) g2)
  refine wp_mono (h (Nat.le_trans hN hB) A (frz ι H S) a w hst') fun e a' w' ⟨ι', s2, H2, Bd2, g1, g2, g3, g4, g5, g6⟩ => ?_
  refine ⟨ι', s2, H2, Bd2, g1, g2, g3, (Keep.refl A w (ext_frz ι H S).fz (hst.rel.frzA S)).trans g4, g5, NI.trans ?_ g6⟩
  exact (NI.refl H).sub hle
end Go.SC
namespace Go.SC
attribute [go_sem] Nat.reduceAdd Nat.reduceSub Nat.reduceMul Nat.reduceEqDiff Nat.reduceLeDiff Int.reduceNeg Int.reduceAdd Int.reduceSub Int.reduceLE Int.reduceLT Int.reduceToNat Nat.reduceLT
attribute [go_sem] reduceCtorEq false_or or_false true_or or_true ne_eq not_true_eq_false not_false_eq_true Nat.lt_irrefl eq_self decide_true decide_false Bool.not_true Bool.not_false Bool.decide_eq_true Bool.false_or Bool.or_false Bool.true_or Bool.or_true Bool.true_and Bool.and_true Bool.false_and Bool.and_false Bool.decide_and Bool.decide_or
attribute [go_sem ↓] reduceIte
end Go.SC
