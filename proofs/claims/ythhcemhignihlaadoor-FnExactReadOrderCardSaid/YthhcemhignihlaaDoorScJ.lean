/- Literals, make, copy, clear, texts and bytes. -/
import Derived.Test.YthhcemhignihlaaDoorScI
import Derived.Laws.BytesArg
set_option linter.unusedSimpArgs false
namespace Go.SC
open Go

/-- A block of which less is told. -/
theorem Rel.less {A : Nat → Prop} {ι : Ren} {H : AH} {Bd : Nat} {w : World} (hr : Rel A ι H Bd w) {n : Nat} {b : Blk} {L : List Value} (hb : H n = some b) (hL : ∀ (i : Nat) v, L[i]? = some v → b.cells[i]? = some v) (ho : b.own = true) :
    Rel A ι (upd H n (some ⟨L, b.own⟩)) Bd w := by
  refine ⟨hr.bound, fun k c hk => ?_, fun k j c c' B1 b1 B2 b2 hne g1 g2 go i1 i2 => ?_, hr.newA, fun k c B1 b1 g1 go i1 => ?_, hr.fzlt, fun k c hk hq => ?_, hr.mp⟩
  · by_cases e1 : k = n
    · subst e1
      rw [upd_same] at hk
      cases hk
      rcases hr.blk k b hb with ⟨hvd, hc⟩ | ⟨B1, base1, cs, e, fr, h1, h2, h3, h4, h5⟩
      · refine .inl ⟨hvd, ?_⟩
        cases L with
        | nil => rfl
        | cons x xs => have := hL 0 x rfl; rw [hc] at this; cases this
      · exact .inr ⟨B1, base1, cs, e, fr, h1, h2, h3, h4, fun i v hv => h5 i v (hL i v hv)⟩
    · rw [upd_other H _ e1] at hk; exact hr.blk k c hk
  · by_cases e1 : k = n
    · subst e1
      rw [upd_same] at g1; cases g1
      rw [upd_other H _ (fun h => hne h.symm)] at g2
      exact hr.apart k j b c' B1 b1 B2 b2 hne hb g2 go i1 i2
    · rw [upd_other H _ e1] at g1
      by_cases e2 : j = n
      · subst e2
        exact hr.apart k j c b B1 b1 B2 b2 hne g1 hb go i1 i2
      · rw [upd_other H _ e2] at g2
        exact hr.apart k j c c' B1 b1 B2 b2 hne g1 g2 go i1 i2
  · by_cases e1 : k = n
    · subst e1
      rw [upd_same] at g1; cases g1
      exact hr.froz k b B1 b1 hb go i1
    · rw [upd_other H _ e1] at g1
      exact hr.froz k c B1 b1 g1 go i1
  · by_cases e1 : k = n
    · subst e1; rw [upd_same] at hk; cases hk; rw [show b.own = true from ho] at hq; cases hq
    · rw [upd_other H _ e1] at hk; exact hr.glob k c hk hq

/-! ### a slice's literal -/
def adense (k : Nat) : Nat → List (Nat × Value) → Option (List Value)
  | _, [] => some []
  | i, (j, v) :: rest => if j = i ∧ isUnk v = false ∧ (cellsL v).length = k then (adense k (i + 1) rest).map (cellsL v ++ ·) else none

theorem adense_fill (k len : Nat) : ∀ (ps : List (Nat × Value)) (i : Nat) (L cells : List Value), adense k i ps = some L → i + ps.length = len → cells.length = len * k →
    lfill (fun i => some (i * k, k)) cells ps = some (cells.take (i * k) ++ L)
  | [], i, L, cells, h, hi, hc => by
    cases h
    simp only [List.length_nil, Nat.add_zero] at hi
    subst hi
    simp [lfill, ← hc]
  | (j, v) :: ps, i, L, cells, h, hi, hc => by
    unfold adense at h
    simp only [Option.ite_none_right_eq_some, Option.map_eq_some_iff] at h
    obtain ⟨⟨rfl, hu, hk⟩, L', hL, rfl⟩ := h
    simp only [List.length_cons] at hi
    have hle : (j + 1) * k ≤ len * k := Nat.mul_le_mul_right _ (by omega)
    have hm : (j + 1) * k = j * k + k := by rw [Nat.add_mul]; omega
    have hle2 : j * k + k ≤ cells.length := by omega
    unfold lfill
    simp only
    rw [if_pos ⟨hu, hk, hle2⟩]
    rw [adense_fill k len ps (j + 1) L' _ hL (by omega) (by simp; omega)]
    congr 1
    rw [hm, List.take_append_of_le_length (by simp; omega), List.take_of_length_le (by simp; omega)]
    simp

def abuildSlice (P : Program) (t : TypeId) (len : Nat) (parts : List (Nat × Value)) : Option (Nat × List Value) :=
  match ask P (underlying t) with
  | some (.slice e) =>
    match ask P (sizeOf e), ask P (zeroValue e) with
    | some k, some _ => if len * k ≤ 16777216 ∧ parts.length = len then (adense k 0 parts).map fun L => (k, L) else none
    | _, _ => none
  | _ => none

theorem parts_rel {ι : Ren} {w : World} {s : List Value} {a : Act} (hs : SR ι w s a.tmps) (parts : Array (Nat × Operand)) :
    ∀ (i : Nat) x x', (parts.toList.map fun x => (x.1, SC.ev s x.2))[i]? = some x → ((parts.map fun (i, x) => (i, a.eval x)).toList)[i]? = some x' → x.1 = x'.1 ∧ VR ι w x.2 x'.2 := by
  intro i x x' h1 h2
  simp only [Array.toList_map, List.getElem?_map] at h1 h2
  cases hp : parts.toList[i]? with
  | none => rw [hp] at h1; cases h1
  | some p =>
    rw [hp] at h1 h2
    simp only [Option.map_some, Option.some.injEq] at h1 h2
    subst h1; subst h2
    exact ⟨rfl, hs.ev _⟩

theorem adense_length (k : Nat) : ∀ (ps : List (Nat × Value)) (i : Nat) (L : List Value), adense k i ps = some L → L.length = ps.length * k
  | [], i, L, h => by cases h; simp
  | (j, v) :: ps, i, L, h => by
    unfold adense at h
    simp only [Option.ite_none_right_eq_some, Option.map_eq_some_iff] at h
    obtain ⟨⟨rfl, hu, hk⟩, L', hL, rfl⟩ := h
    rw [List.length_append, adense_length k ps _ _ hL, hk, List.length_cons, Nat.add_mul]
    omega

theorem abuildSlice_sound {P : Program} {A : Nat → Prop} {ι : Ren} {H : AH} {Bd : Nat} {w : World} (hr : Rel A ι H Bd w) {t : TypeId} {len k : Nat} {L : List Value} {s : List Value} {a : Act} (hs : SR ι w s a.tmps) (parts : Array (Nat × Operand))
    {m : Nat} (hm : ι m = none) (hmb : m < Bd) (h : abuildSlice P t len (parts.toList.map fun x => (x.1, ev s x.2)) = some (k, L)) :
    ∃ v' w' ι', (Instr.buildSlice t len (parts.map fun (i, x) => (i, a.eval x))).run P w = .ok v' w' ∧ Rel A ι' (upd H m (some ⟨L, true⟩)) Bd w' ∧ VR ι' w' (.slice (some ⟨m, 0, some k⟩) len (len + 1)) v' ∧ Keep A ι w ι' w' ∧ ∀ n, n ≠ m → ι' n = ι n := by
  unfold abuildSlice at h
  split at h
  · rename_i e ht
    split at h
    · rename_i k1 z hk hz
      simp only [Option.ite_none_right_eq_some, Option.map_eq_some_iff, Prod.mk.injEq] at h
      obtain ⟨⟨hle, hlen⟩, L', hL, rfl, rfl⟩ := h
      have hLl := adense_length _ _ _ _ hL
      rw [hlen] at hLl
      have hf := adense_fill k1 len _ 0 L' (List.replicate (len * k1) unk) hL (by omega) (by simp)
      simp only [Nat.zero_mul, List.take_zero, List.nil_append] at hf
      let z0 : Array Value := if len * k1 = 0 then #[] else z.cells
      obtain ⟨r', hr', hlr⟩ := fill_sound (ι := ι) (w := w) (fun i => some (i * k1, k1)) _ (parts.map fun (i, x) => (i, a.eval x)).toList (List.replicate (len * k1) unk) ((Array.range (len * k1)).map fun i => z0[i % z0.size]!) L'
        ⟨by simp, fun i v v' h1 _ => by
          rw [List.getElem?_replicate] at h1
          split at h1
          · cases h1; exact .unk _
          · cases h1⟩ (by simp) (parts_rel hs parts) hf
      have hrs : r'.size = len * k1 := by have := hlr.1; simp at this; omega
      refine ⟨.slice (some ⟨w.heap.size, 0, none⟩) len len, w.alloc (.cells r' e), ren ι m (.at w.heap.size 0), ?_, ?_, ?_, Keep.alloc A w _, fun n hn => ren_other _ _ hn⟩
      · unfold Instr.buildSlice
        have hzz : (if len * k1 = 0 then pure #[] else do pure (← zeroValue e).cells : Sem (Array Value)).run P w = .ok z0 w := by
          by_cases h0 : len * k1 = 0
          · simp only [if_pos h0, Sem.run_pure, z0]
          · simp only [if_neg h0, Sem.run_bind, ask_zero hz w, Result.andThen_ok, Sem.run_pure, z0]
        have hle' : ¬ (len * k1 > 2 ^ 24) := by have : (2 : Nat) ^ 24 = 16777216 := by decide
                                                omega
        simp only [Sem.run_bind, run_und ht w, Result.andThen_ok, ask_sizeOf hk w, if_neg hle', hr', Sem.run_pure, newRow, run_newObj]
        by_cases h0 : len * k1 = 0
        · simp only [z0, if_pos h0] at hr'
          simp only [if_pos h0, Sem.run_pure, Result.andThen_ok, hr', Sem.run_bind, newRow, run_newObj]
          rfl
        · simp only [z0, if_neg h0] at hr'
          simp only [if_neg h0, Sem.run_bind, ask_zero hz w, Result.andThen_ok, Sem.run_pure, hr', newRow, run_newObj]
          rfl
      · exact hr.new hm hmb (fun i v hv => by
          have hlt : i < r'.size := by have := (List.getElem?_eq_some_iff.1 hv).1; omega
          exact ⟨r'[i], by simp [hlt], hlr.2 i v _ hv (by simp [hlt])⟩) (fun i _ h => by simp at h)
      · exact .sl ⟨_, ren_same _ _ _⟩ (Nat.le_refl _) (by omega) (by omega) (.inr ⟨w.heap.size, 0, r'.size, ren_same _ _ _, rfl, ⟨r', e, (0, 0), alloc_new _ _, rfl⟩, by omega⟩)
    · cases h
  · cases h

/-! ### make -/
def zmake (c : Nat) (z : List Value) : List Value := (List.range (c * z.length)).map fun i => z.getD (i % z.length) undef

theorem zmake_one (c : Nat) (v : Value) : zmake c [v] = List.replicate c v := by
  unfold zmake
  apply List.ext_getElem
  · simp
  · intro i h1 h2
    simp [Nat.mod_one]

def amake (P : Program) (t : TypeId) (len cap : Value) : Option (Nat × List Value × Nat × Nat) :=
  match ask P (underlying t), len, cap with
  | some (.slice e), .int _ n, .int _ c =>
    match ask P (sizeOf e), ask P (zeroValue e) with
    | some k, some z => if 0 ≤ n ∧ n ≤ c ∧ c ≤ 1073741824 ∧ (cellsL z).length = k ∧ (cellsL z).all plainV = true ∧ e < P.types.size then some (k, zmake c.toNat (cellsL z), n.toNat, c.toNat) else none
    | _, _ => none
  | _, _, _ => none

theorem amake_sound {P : Program} (hP : POk P) {A : Nat → Prop} {ι : Ren} {H : AH} {Bd : Nat} {w : World} (hr : Rel A ι H Bd w) {t : TypeId} {len cap len' cap' : Value} (hl : VR ι w len len') (hc : VR ι w cap cap') {k n c : Nat} {L : List Value}
    {m : Nat} (hm : ι m = none) (hmb : m < Bd) (h : amake P t len cap = some (k, L, n, c)) :
    ∃ v' w' ι', (Instr.makeSlice t len' cap').run P w = .ok v' w' ∧ Rel A ι' (upd H m (some ⟨L, true⟩)) Bd w' ∧ VR ι' w' (.slice (some ⟨m, 0, some k⟩) n (c + 1)) v' ∧ Keep A ι w ι' w' ∧ ∀ n, n ≠ m → ι' n = ι n := by
  unfold amake at h
  split at h
  · rename_i e q1 n0 q2 c0 ht
    split at h
    · rename_i k1 z hk hz
      simp only [Option.ite_none_right_eq_some, Option.some.injEq, Prod.mk.injEq] at h
      obtain ⟨⟨h0, h1, h2, hzk, hzp, hes⟩, rfl, rfl, rfl, rfl⟩ := h
      cases hl; cases hc
      obtain ⟨i, hi, hsz, hiz⟩ := ask_info hk hz
      have hb := hP.bytes e i hes hi
      have hbc : (i.bytes : Int) * c0 ≤ 140737488355328 := by
        have hq : (i.bytes : Int) ≤ 131072 := Int.ofNat_le.2 hb
        have : (i.bytes : Int) * c0 ≤ 131072 * 1073741824 := Int.mul_le_mul hq h2 (by omega) (by decide)
        omega
      have hbn : (i.bytes : Int) * n0 ≤ 140737488355328 := Int.le_trans (Int.mul_le_mul_of_nonneg_left h1 (Int.natCast_nonneg _)) hbc
      have e1 : IntKind.i64.wrap n0 = n0 := IntWalk.i64_in _ (by omega)
      have e2 : IntKind.i64.wrap c0 = c0 := IntWalk.i64_in _ (by omega)
      let cs : Array Value := (Array.range (c0.toNat * k1)).map fun i => (if c0.toNat * k1 = 0 then #[] else z.cells)[i % (if c0.toNat * k1 = 0 then (#[] : Array Value) else z.cells).size]!
      have hrun : (Instr.makeSlice t (.int q1 n0) (.int q2 c0)).run P w = .ok (.slice (some ⟨w.heap.size, 0, none⟩) n0.toNat c0.toNat) (w.alloc (.cells cs e)) := by
        unfold Instr.makeSlice
        have h48 : ((2 : Int) ^ 48) = 281474976710656 := by decide
        have t1 : (decide (c0 < 0) || decide ((i.bytes : Int) * c0 > 2 ^ 48)) = false := by
          rw [h48]; exact Bool.or_eq_false_iff.2 ⟨decide_eq_false (by omega), decide_eq_false (by omega)⟩
        have t2 : decide (n0 < 0) = false := decide_eq_false (by omega)
        have t3 : decide (n0 > c0) = false := decide_eq_false (by omega)
        simp only [Sem.run_bind, run_und ht w, Result.andThen_ok, asInt, asIntOf, Sem.run_pure, typeInfo_run, hi, e1, e2, t1, t2, t3, Bool.or_false, Bool.false_eq_true, if_false, run_askRoom, ask_sizeOf hk w]
        by_cases hz0 : c0.toNat * k1 = 0
        · simp only [if_pos hz0, Sem.run_pure, Result.andThen_ok, Sem.run_bind, newRow, run_newObj, cs]
          rfl
        · simp only [if_neg hz0, Sem.run_pure, Result.andThen_ok, Sem.run_bind, ask_zero hz w, newRow, run_newObj, cs]
          rfl
      have hcs : cs.size = c0.toNat * k1 := by simp [cs]
      have hLl : (zmake c0.toNat (cellsL z)).length = c0.toNat * k1 := by simp [zmake, hzk]
      refine ⟨_, _, ren ι m (.at w.heap.size 0), hrun, ?_, ?_, Keep.alloc A w _, fun n hn => ren_other _ _ hn⟩
      · refine hr.new hm hmb (fun j v hv => ?_) (fun _ _ h => by simp at h)
        have hj : j < c0.toNat * k1 := by have := (List.getElem?_eq_some_iff.1 hv).1; omega
        have hne : ¬ c0.toNat * k1 = 0 := by omega
        have hk0 : 0 < k1 := Nat.pos_of_ne_zero fun h => hne (by rw [h]; simp)
        have hzs : z.cells.size = k1 := cellsL_size hzk
        have hjm : j % k1 < k1 := Nat.mod_lt _ hk0
        have hv2 : v = (cellsL z).getD (j % k1) undef := by
          unfold zmake at hv
          rw [hzk, List.getElem?_map, List.getElem?_range hj] at hv
          cases hv; rfl
        have hjl : j % k1 < (cellsL z).length := by omega
        have hp : plainV v = true := by
          rw [hv2, List.getD_eq_getElem?_getD, List.getElem?_eq_getElem hjl]
          exact List.all_eq_true.1 hzp _ (List.getElem_mem hjl)
        refine ⟨v, ?_, VR.plain hp⟩
        have : cs[j]? = some (z.cells[j % k1]!) := by
          simp only [cs, if_neg hne, hzs, Array.getElem?_map]
          rw [Array.getElem?_eq_getElem (by simpa using hj)]
          simp
        rw [this, hv2, List.getD_eq_getElem?_getD, List.getElem?_eq_getElem hjl]
        have hl2 : j % k1 < z.cells.size := by omega
        simp only [getElem!_pos z.cells (j % k1) hl2, Option.getD_some, cellsL_eq]
        simp
      · exact .sl ⟨_, ren_same _ _ _⟩ (by omega) (by omega) (by omega) (.inr ⟨w.heap.size, 0, cs.size, ren_same _ _ _, rfl, ⟨cs, e, (0, 0), alloc_new _ _, rfl⟩, by omega⟩)
    · cases h
  · cases h

/-! ### new variables -/
theorem new_var {P : Program} {A : Nat → Prop} {ι : Ren} {H : AH} {Bd : Nat} {w : World} (hr : Rel A ι H Bd w) {t : TypeId} {v v' : Value} (hv : VR ι w v v') (hu : isUnk v = false) {m : Nat} (hm : ι m = none) (hmb : m < Bd) :
    ∃ x w' ι', (Instr.box t v').run P w = .ok x w' ∧ Rel A ι' (upd H m (some ⟨cellsL v, true⟩)) Bd w' ∧ VR ι' w' (.pointer (some ⟨m, 0, none⟩)) x ∧ Keep A ι w ι' w' ∧ ∀ n, n ≠ m → ι' n = ι n := by
  have hl := hv.cells hu
  refine ⟨.pointer (some ⟨w.heap.size, 0, none⟩), w.alloc (.cells v'.cells t), ren ι m (.at w.heap.size 0), ?_, ?_, .ptr (ren_same _ _ _), Keep.alloc A w _, fun n hn => ren_other _ _ hn⟩
  · simp only [Instr.box, newVar, newRow, Sem.run_bind, run_newObj, Result.andThen_ok, Sem.run_pure]
    rfl
  · refine hr.new hm hmb (fun i u hu => ?_) (fun _ _ h => by simp at h)
    have hlt : i < v'.cells.size := by have h1 := (List.getElem?_eq_some_iff.1 hu).1; have h2 := hl.1; simp at h2; omega
    exact ⟨v'.cells[i], by simp [hlt], hl.2 i u _ hu (by simp [hlt])⟩

theorem alloc_var {P : Program} {A : Nat → Prop} {ι : Ren} {H : AH} {Bd : Nat} {w : World} (hr : Rel A ι H Bd w) {t : TypeId} {z : Value} (hz : ask P (zeroValue t) = some z) (hp : (cellsL z).all plainV = true) {m : Nat} (hm : ι m = none) (hmb : m < Bd) :
    ∃ x w' ι', (Instr.alloc t true (.tuple #[])).run P w = .ok x w' ∧ Rel A ι' (upd H m (some ⟨cellsL z, true⟩)) Bd w' ∧ VR ι' w' (.pointer (some ⟨m, 0, none⟩)) x ∧ Keep A ι w ι' w' ∧ ∀ n, n ≠ m → ι' n = ι n := by
  refine ⟨.pointer (some ⟨w.heap.size, 0, none⟩), w.alloc (.cells z.cells t), ren ι m (.at w.heap.size 0), ?_, ?_, .ptr (ren_same _ _ _), Keep.alloc A w _, fun n hn => ren_other _ _ hn⟩
  · simp only [Instr.alloc, newVar, newRow, Sem.run_bind, ask_zero hz w, run_newObj, Result.andThen_ok, Sem.run_pure]
    rfl
  · refine hr.new hm hmb (fun i u hu => ?_) (fun _ _ h => by simp at h)
    rw [cellsL_eq] at hu
    exact ⟨u, by simpa using hu, VR.plain (List.all_eq_true.1 hp u (by rw [cellsL_eq]; exact List.mem_of_getElem? hu))⟩

/-! ### texts and bytes -/
def anums : List Value → Option (List Int)
  | [] => some []
  | .int .u8 n :: r => (anums r).map (n :: ·)
  | _ => none

theorem anums_out {ι : Ren} {w : World} : ∀ (xs : List Value) (ns : List Int), anums xs = some ns → xs = ns.map (Value.int .u8)
  | [], ns, h => by cases h; rfl
  | x :: xs, ns, h => by
    unfold anums at h
    split at h
    · rename_i heq; cases heq
    · rename_i n r heq
      cases heq
      obtain ⟨q, hq, rfl⟩ := Option.map_eq_some_iff.1 h
      rw [anums_out (ι := ι) (w := w) _ _ hq]; rfl
    · cases h

def undBytes (P : Program) (t : TypeId) : Bool := match P.underlying t with
  | some (.slice e) => match P.underlying e with | some (.int .u8) => true | _ => false
  | _ => false
theorem undBytes_out {P : Program} {t : TypeId} (h : undBytes P t = true) : ∃ e, P.underlying t = some (.slice e) ∧ P.underlying e = some (.int .u8) := by
  unfold undBytes at h
  split at h
  · rename_i e he
    refine ⟨e, he, ?_⟩
    split at h
    · assumption
    · cases h
  · cases h

/-- string(xs), xs bytes -/
def astring (P : Program) (H : AH) (src dst : TypeId) (x : Value) : Option Value :=
  if undBytes P src = true ∧ undString P dst = true then
    match acellsOf H 1 x with
    | some (_, xs) => (anums xs).map fun ns => .string (strOfNums ns)
    | none => none
  else none

theorem astring_sound {P : Program} {A : Nat → Prop} {ι : Ren} {H : AH} {Bd : Nat} {w : World} (hr : Rel A ι H Bd w) {src dst : TypeId} {x x' v : Value} (hx : VR ι w x x') (hns : ∀ s, x ≠ .string s) (h : astring P H src dst x = some v) :
    (convert src dst x').run P w = .ok v w ∧ plainV v = true := by
  unfold astring at h
  simp only [Option.ite_none_right_eq_some] at h
  obtain ⟨⟨hs, hd⟩, h⟩ := h
  obtain ⟨e, h1, h2⟩ := undBytes_out hs
  have h3 := undString_out hd
  split at h
  · rename_i l xs hxs
    obtain ⟨ns, hn, rfl⟩ := Option.map_eq_some_iff.1 h
    have hxe := anums_out (ι := ι) (w := w) _ _ hn
    refine ⟨?_, rfl⟩
    obtain ⟨hq1, hl, hq2⟩ := acellsOf_sound (P := P) hr hx hxs
    unfold acellsOf at hxs
    split at hxs
    · cases hxs; cases hx
      have : ns = [] := by cases ns with
        | nil => rfl
        | cons a b => cases hxe
      subst this
      exact run_convert_bytes_nil w src e h1 h2 0 0 dst h3
    · rename_i n off k' len c
      split at hxs
      · rename_i b hb
        simp only [Option.ite_none_right_eq_some, Option.some.injEq, Prod.mk.injEq] at hxs
        obtain ⟨⟨rfl, hle⟩, rfl, hxs⟩ := hxs
        cases hx with
        | sl hn' hlc h0' h1' hA =>
        rename_i c' A'
        have hnl : ns.length = len := by rw [hxe] at hl; simpa using hl
        rcases Nat.eq_zero_or_pos len with hz | hp
        · subst hz
          obtain rfl : ns = [] := List.eq_nil_of_length_eq_zero hnl
          cases A' with
          | none => exact run_convert_bytes_nil w src e h1 h2 0 c' dst h3
          | some a =>
            simp [convert, run_underlying h1, run_underlying h2, run_underlying h3, Conv.bytesToString, loadCells, loadCellsFrom]
            rfl
        · rcases hA with hA | ⟨B, base, size, hι, rfl, hrow, hsz⟩
          · omega
          rcases hr.blk n b hb with ⟨hvd, _⟩ | ⟨B1, base1, cs, e1, fr, g1, g2, g3, g4, g5⟩
          · rw [hι] at hvd; cases hvd
          rw [hι] at g1
          cases g1
          refine run_convert_bytes_arg w src e h1 h2 B (base + off) len c' ns hnl (fun i hi => ?_) dst h3
          have hxi : xs[i]? = some (.int .u8 (ns.getD i 0)) := by
            rw [hxe, List.getElem?_map, List.getElem?_eq_getElem (by omega), List.getD_eq_getElem?_getD, List.getElem?_eq_getElem (by omega)]
            rfl
          rw [← hxs, List.getElem?_take] at hxi
          split at hxi
          · rw [List.getElem?_drop] at hxi
            obtain ⟨u, q1, q2⟩ := g5 (off + i) _ hxi
            cases q2
            rw [cell_of g2, Nat.add_assoc, q1]
          · cases hxi
      · cases hxs
    · rename_i k' fs rows
      simp only [Option.ite_none_right_eq_some, Option.some.injEq, Prod.mk.injEq] at hxs
      obtain ⟨rfl, rfl, hxs⟩ := hxs
      have hnl : ns.length = rows.size := by rw [hxe] at hl; simpa using hl
      cases hx with
      | lst0 =>
        rename_i A' c'
        obtain rfl : ns = [] := List.eq_nil_of_length_eq_zero (by simpa using hnl)
        cases A' with
        | none => exact run_convert_bytes_nil w src e h1 h2 0 c' dst h3
        | some a =>
          simp [convert, run_underlying h1, run_underlying h2, run_underlying h3, Conv.bytesToString, loadCells, loadCellsFrom]
          rfl
      | lst hfz hB hl2 hsz hrr hc =>
        rename_i B base c' cs e1 fr
        refine run_convert_bytes_arg w src e h1 h2 B base rows.size c' ns hnl (fun i hi => ?_) dst h3
        have hi' : i < rows.size := by omega
        obtain ⟨r, hr1, hr2⟩ := hrr i rows[i] (by simp [hi'])
        have hr3 : rows[i]? = some (.agg r) := by rw [← hr1]; simp [hi']
        have hlt : base + i * 1 + 0 < cs.size := by omega
        have hr4 : r[0]? = some (r[0]'(by omega)) := by simp [hr2]
        have hv := hc i 0 r _ _ hr3 hr4 (Array.getElem?_eq_getElem hlt)
        have hxi : xs[i]? = some (.int .u8 (ns.getD i 0)) := by
          rw [hxe, List.getElem?_map, List.getElem?_eq_getElem (by omega), List.getD_eq_getElem?_getD, List.getElem?_eq_getElem (by omega)]
          rfl
        have hxr : xs[i]? = some (r[0]'(by omega)) := by
          rw [← hxs]
          have key : ∀ (l : List Value) (i : Nat) (r : Array Value), (∀ (i : Nat) x, l[i]? = some x → ∃ r : Array Value, x = .agg r ∧ r.size = 1) → l[i]? = some (.agg r) → (l.flatMap cellsL)[i]? = r[0]? := by
            intro l
            induction l with
            | nil => intro i r _ h; simp at h
            | cons y ys ih =>
              intro i r hall h
              obtain ⟨q, rfl, hq⟩ := hall 0 y rfl
              rw [List.flatMap_cons, List.getElem?_append]
              simp only [cellsL, Array.length_toList, hq]
              cases i with
              | zero => simp at h; subst h; simp
              | succ i => rw [if_neg (by omega)]; exact ih i r (fun j x hj => hall (j + 1) x (by simpa using hj)) (by simpa using h)
          rw [key rows.toList i r (fun j x hj => hrr j x (by simpa using hj)) (by simpa using hr3), hr4]
        rw [hxr] at hxi
        rw [Option.some.inj hxi] at hv
        generalize hcv : cs[base + i * 1 + 0] = cv at hv
        cases hv
        rw [cell_of hB, show base + i = base + i * 1 + 0 by omega, Array.getElem?_eq_getElem hlt, hcv]
    · exact absurd rfl (hns _)
    · cases hxs
  · cases h

end Go.SC
