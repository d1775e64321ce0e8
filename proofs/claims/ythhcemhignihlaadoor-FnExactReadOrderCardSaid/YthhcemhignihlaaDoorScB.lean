/- What the quiet operations come to over abstract values. -/
import Derived.Test.YthhcemhignihlaaDoorScA
import Derived.Laws.Slices
import Derived.IntWalk
import GoSem.Dispatch
namespace Go.SC
open Go

/-- What a program's table says, in whatever world. -/
def ask {α : Type} (P : Program) (s : Sem α) : Option α :=
  match s.run P default with
  | .ok a _ => some a
  | .halt .. => none

theorem typeInfo_run (P : Program) (t : TypeId) (w : World) : (typeInfo t).run P w = match P.info? t with | some i => .ok i w | none => .halt (.stuck "no such type") w := by
  unfold typeInfo
  simp only [Sem.run_bind, run_program, Result.andThen_ok]
  cases P.info? t <;> simp
theorem underlying_run (P : Program) (t : TypeId) (w : World) : (underlying t).run P w = match P.underlying t with | some i => .ok i w | none => .halt (.stuck "no such type") w := by
  unfold underlying
  simp only [Sem.run_bind, run_program, Result.andThen_ok]
  cases P.underlying t <;> simp

theorem ask_underlying {P : Program} {t : TypeId} {d : TypeDesc} (h : ask P (underlying t) = some d) : P.underlying t = some d := by
  simp only [ask, underlying_run] at h
  cases hd : P.underlying t <;> simp_all
theorem run_und {P : Program} {t : TypeId} {d : TypeDesc} (h : ask P (underlying t) = some d) (w : World) : (underlying t).run P w = .ok d w := by
  rw [underlying_run, ask_underlying h]
theorem ask_sizeOf {P : Program} {t n : Nat} (h : ask P (sizeOf t) = some n) (w : World) : (sizeOf t).run P w = .ok n w := by
  simp only [ask, sizeOf, Sem.run_bind, typeInfo_run] at h ⊢
  cases hd : P.info? t <;> simp_all
theorem ask_isAgg {P : Program} {t : Nat} {b : Bool} (h : ask P (isAgg t) = some b) (w : World) : (isAgg t).run P w = .ok b w := by
  simp only [ask, isAgg, Sem.run_bind, underlying_run] at h ⊢
  cases hd : P.underlying t with
  | none => simp_all
  | some d => cases d <;> simp_all
theorem ask_zero {P : Program} {t : Nat} {z : Value} (h : ask P (zeroValue t) = some z) (w : World) : (zeroValue t).run P w = .ok z w := by
  simp only [ask, zeroValue, Sem.run_bind, typeInfo_run] at h ⊢
  cases hd : P.info? t with
  | none => simp_all
  | some i => cases hz : i.zero <;> simp_all

/-- What continues with a value, if there is one. -/
def Yld {α : Type} (o : Option α) (K : α → Prop) : Prop := ∃ v, o = some v ∧ K v
@[simp] theorem Yld_some {α : Type} (v : α) (K : α → Prop) : Yld (some v) K ↔ K v := by simp [Yld]
@[simp] theorem Yld_none {α : Type} (K : α → Prop) : Yld none K ↔ False := by simp [Yld]
@[simp] theorem Yld_ite {α : Type} (c : Prop) [Decidable c] (x : Option α) (K : α → Prop) : Yld (if c then x else none) K ↔ c ∧ Yld x K := by
  by_cases h : c <;> simp [h]

def R64 (x : Int) : Prop := -9223372036854775808 ≤ x ∧ x ≤ 9223372036854775807
instance (x : Int) : Decidable (R64 x) := inferInstanceAs (Decidable (_ ∧ _))
def R32 (x : Int) : Prop := -2147483648 ≤ x ∧ x ≤ 2147483647
instance (x : Int) : Decidable (R32 x) := inferInstanceAs (Decidable (_ ∧ _))

/-- A number that has been reckoned: an int stays inside its range; what is unsigned wraps. -/
def chk : IntKind → Int → Option Value
  | .i64, x => if R64 x then some (.int .i64 x) else none
  | .i32, x => if R32 x then some (.int .i32 x) else none
  | k, x => some (.int k (k.wrap x))

theorem chk_sound {k : IntKind} {x : Int} {v : Value} (h : chk k x = some v) : v = .int k (k.wrap x) := by
  unfold chk at h
  split at h
  · split at h
    · rename_i hr
      cases h
      rw [IntWalk.i64_in x hr]
    · cases h
  · split at h
    · rename_i hr
      cases h
      rw [IntWalk.i32_in x hr]
    · cases h
  · cases h; rfl

def abits (op : BinOp) (k : IntKind) (x y : Int) : Option Value :=
  let a := BitVec.ofInt k.bits x
  let b := BitVec.ofInt k.bits y
  match op with
  | .and => some (.int k (k.wrap (a &&& b).toNat))
  | .or => some (.int k (k.wrap (a ||| b).toNat))
  | .xor => some (.int k (k.wrap (a ^^^ b).toNat))
  | .andNot => some (.int k (k.wrap (a &&& ~~~b).toNat))
  | _ => none

def aint (op : BinOp) (k : IntKind) (a b : Int) : Option Value :=
  match op with
  | .add => chk k (a + b)
  | .sub => chk k (a - b)
  | .mul => chk k (a * b)
  | .quo => if b ≠ 0 then chk k (a.tdiv b) else none
  | .rem => if b ≠ 0 then some (.int k (a.tmod b)) else none
  | .eql => some (.bool (a == b))
  | .neq => some (.bool (a != b))
  | .lss => some (.bool (a < b))
  | .leq => some (.bool (a ≤ b))
  | .gtr => some (.bool (a > b))
  | .geq => some (.bool (a ≥ b))
  | .shl | .shr => none
  | op => abits op k a b

def astr (op : BinOp) (x y : ByteArray) : Option Value :=
  match op with
  | .add => if x.size + y.size ≤ 9223372036854775807 then some (.string (x ++ y)) else none
  | .eql => some (.bool (x.toList == y.toList))
  | .neq => some (.bool (!(x.toList == y.toList)))
  | .lss => some (.bool (Op.bytesLess x.toList y.toList))
  | _ => none

def ashift (op : BinOp) (k : IntKind) (a b : Int) : Option Value :=
  match op with
  | .shl => if 0 ≤ b then chk k (a * 2 ^ (min b.toNat k.bits)) else none
  | .shr => if 0 ≤ b then some (.int k (a.fdiv (2 ^ (min b.toNat k.bits)))) else none
  | _ => none

/-- Is one of two the nil slice (pointer), and what is the other? -/
def anil : Value → Value → Option Bool
  | .slice none 0 0, .slice none 0 0 => some true
  | .slice none 0 0, .slice (some _) len _ => if 0 < len then some false else none
  | .slice (some _) len _, .slice none 0 0 => if 0 < len then some false else none
  | .pointer none, .pointer none => some true
  | .pointer (some _), .pointer none => some false
  | .slice none 0 0, .func (.yield _) _ rows => if 0 < rows.size then some false else none
  | .func (.yield _) _ rows, .slice none 0 0 => if 0 < rows.size then some false else none
  | .func (.method _) _ _, .pointer none => some false
  | _, _ => none

def undNilS (P : Program) (t : TypeId) : Bool := match P.underlying t with | some (.slice _) => true | _ => false
def undNilP (P : Program) (t : TypeId) : Bool := match P.underlying t with | some (.pointer _) => true | _ => false
def undBool (P : Program) (t : TypeId) : Bool := match P.underlying t with | some .bool => true | _ => false

/-- Of a type whose values are asked whether they are nil. -/
def undFits (P : Program) (t : TypeId) : Value → Bool
  | .slice .. => undNilS P t
  | .pointer _ => undNilP P t
  | .func (.yield _) _ _ => undNilS P t
  | .func (.method _) _ _ => undNilP P t
  | _ => false

def abin (P : Program) (op : BinOp) (xt : TypeId) (x y : Value) : Option Value :=
  match x, y with
  | .int k a, .int k' b => if op = .shl ∨ op = .shr then ashift op k a b else if k = k' then aint op k a b else none
  | .string a, .string b => astr op a b
  | .bool a, .bool b =>
    match op with
    | .eql => if undBool P xt = true then some (.bool (a == b)) else none
    | .neq => if undBool P xt = true then some (.bool (a != b)) else none
    | _ => none
  | x, y =>
    match op with
    | .eql => if undFits P xt x = true then (anil x y).map Value.bool else none
    | .neq => if undFits P xt x = true then (anil x y).map fun b => Value.bool (!b) else none
    | _ => none

theorem aint_sound {P : Program} {op : BinOp} {k : IntKind} {a b : Int} {v : Value} (xt : TypeId) (hs : ¬ (op = .shl ∨ op = .shr)) (h : aint op k a b = some v) (w : World) :
    (binOp op xt (.int k a) (.int k b)).run P w = .ok v w := by
  cases op <;> simp only [aint] at h <;> first
    | (simp at hs; done)
    | (have := chk_sound h; subst this; simp [binOp, Op.intArith]; done)
    | (cases h; simp [binOp, Op.intCmp]; done)
    | skip
  · split at h
    · rename_i hb; have := chk_sound h; subst this; simp [binOp, Op.intDiv, hb]
    · cases h
  · split at h
    · rename_i hb; cases h; simp [binOp, Op.intDiv, hb]
    · cases h
  all_goals (simp only [abits] at h; cases h; simp [binOp, Op.intBits])

theorem ashift_sound {P : Program} {op : BinOp} {k k' : IntKind} {a b : Int} {v : Value} (xt : TypeId) (h : ashift op k a b = some v) (w : World) :
    (binOp op xt (.int k a) (.int k' b)).run P w = .ok v w := by
  cases op <;> simp only [ashift] at h <;> first | (cases h; done) | skip
  · split at h
    · rename_i hb; have := chk_sound h; subst this; simp [binOp, Op.shift]; omega
    · cases h
  · split at h
    · rename_i hb; cases h; simp [binOp, Op.shift]; omega
    · cases h

theorem astr_sound {P : Program} {op : BinOp} {x y : ByteArray} {v : Value} (xt : TypeId) (h : astr op x y = some v) (w : World) :
    (binOp op xt (.string x) (.string y)).run P w = .ok v w := by
  cases op <;> simp only [astr] at h <;> first | (cases h; done) | skip
  · split at h
    · rename_i hb
      cases h
      have : ¬ (((x.size + y.size : Nat) : Int) > IntKind.i64.max) := by
        have e : IntKind.i64.max = 9223372036854775807 := by decide
        rw [e]; omega
      simp only [binOp, Op.stringOp, this, if_false, Sem.run_pure]
    · cases h
  all_goals (cases h; simp [binOp, Op.stringOp])

end Go.SC
