/- append: in place or in a new row: under a new name alike. -/
import Derived.Test.YthhcemhignihlaaDoorScH
import Derived.Laws.AppendOwn
namespace Go.SC
open Go

/-- Cells that are there but of which nothing is said. -/
theorem Rel.extend {A : Nat → Prop} {ι : Ren} {H : AH} {Bd : Nat} {w : World} (hr : Rel A ι H Bd w) {n B base size m : Nat} {b : Blk} (hb : H n = some b) (hι : ι n = some (.at B base)) (hrow : Row w B size)
    (hle : base + (b.cells.length + m) ≤ size) (ho : b.own = true) : Rel A ι (upd H n (some ⟨b.cells ++ List.replicate m unk, b.own⟩)) Bd w := by
  refine ⟨hr.bound, fun k c hk => ?_, fun k j c c' B1 b1 B2 b2 hne g1 g2 go i1 i2 => ?_, hr.newA, fun k c B1 b1 g1 go i1 => ?_, hr.fzlt, fun k c hk hq => ?_, hr.mp⟩
  · by_cases e1 : k = n
    · subst e1
      rw [upd_same] at hk
      cases hk
      rcases hr.blk k b hb with ⟨hvd, _⟩ | ⟨B1, base1, cs, e, fr, h1, h2, h3, h4, h5⟩
      · rw [hι] at hvd; cases hvd
      rw [hι] at h1
      cases h1
      obtain ⟨cs', e', fr', h2', hsz⟩ := hrow
      rw [h2] at h2'
      cases h2'
      refine .inr ⟨B, base, cs, e, fr, hι, h2, h3, h4, fun i v hv => ?_⟩
      rw [List.getElem?_append] at hv
      split at hv
      · exact h5 i v hv
      · rename_i hi
        have hi2 : i - b.cells.length < m := by
          have := (List.getElem?_eq_some_iff.1 hv).1; simpa using this
        rw [List.getElem?_replicate] at hv
        rw [if_pos hi2] at hv
        cases hv
        have hlt : base + i < cs.size := by omega
        exact ⟨cs[base + i], by simp [hlt], .unk _⟩
    · rw [upd_other H _ e1] at hk; exact hr.blk k c hk
  · by_cases e1 : k = n
    · subst e1
      rw [upd_same] at g1; cases g1
      rw [upd_other H _ (fun h => hne h.symm)] at g2
      exact hr.apart k j b c' B1 b1 B2 b2 hne hb g2 go i1 i2
    · rw [upd_other H _ e1] at g1
      by_cases e2 : j = n
      · subst e2
        exact hr.apart k j c b B1 b1 B2 b2 hne g1 hb go i1 i2
      · rw [upd_other H _ e2] at g2
        exact hr.apart k j c c' B1 b1 B2 b2 hne g1 g2 go i1 i2
  · by_cases e1 : k = n
    · subst e1
      rw [upd_same] at g1; cases g1
      exact hr.froz k b B1 b1 hb go i1
    · rw [upd_other H _ e1] at g1
      exact hr.froz k c B1 b1 g1 go i1
  · by_cases e1 : k = n
    · subst e1; rw [upd_same] at hk; cases hk; rw [show b.own = true from ho] at hq; cases hq
    · rw [upd_other H _ e1] at hk; exact hr.glob k c hk hq

/-- A block's cells from 'off' on, under a new name; the old name is dead. -/
theorem Rel.move {A : Nat → Prop} {ι : Ren} {H : AH} {Bd : Nat} {w : World} (hr : Rel A ι H Bd w) {n m B base off : Nat} {b : Blk} {L : List Value} (hb : H n = some b) (ho : b.own = true) (hι : ι n = some (.at B base))
    (hm : ι m = none) (hmb : m < Bd) (hL : ∀ (i : Nat) v, L[i]? = some v → b.cells[off + i]? = some v) :
    Rel A (ren ι m (.at B (base + off))) (upd (upd H n none) m (some ⟨L, true⟩)) Bd w := by
  have hx := ext_ren (.at B (base + off)) hm
  have hmn : m ≠ n := fun h => by rw [h, hι] at hm; cases hm
  rcases hr.blk n b hb with ⟨hvd, _⟩ | ⟨B1, base1, cs, e, fr, h1, h2, h3, h4, h5⟩
  · rw [hι] at hvd; cases hvd
  rw [hι] at h1
  cases h1
  refine ⟨fun k hk => ?_, fun k c hk => ?_, fun k j c c' B1 b1 B2 b2 hne g1 g2 go i1 i2 => ?_, hr.newA, fun k c B1 b1 g1 go i1 hz => ?_, hr.fzlt, fun k c hk hq => ?_, hr.mp⟩
  · rw [ren_other _ _ (by omega)]; exact hr.bound k hk
  · by_cases e1 : k = m
    · subst e1
      rw [upd_same] at hk
      cases hk
      refine .inr ⟨B, base + off, cs, e, fr, ren_same _ _ _, h2, fun _ => h3 ho, fun h => by (cases h), fun i v hv => ?_⟩
      obtain ⟨v', g1, g2⟩ := h5 (off + i) v (hL i v hv)
      exact ⟨v', by rw [Nat.add_assoc]; exact g1, g2.mono hx (Fro.refl ι w)⟩
    · rw [upd_other _ _ e1] at hk
      by_cases e2 : k = n
      · subst e2; rw [upd_same] at hk; cases hk
      · rw [upd_other _ _ e2] at hk
        exact (hr.blk k c hk).mono hx (Fro.refl ι w) fun _ _ _ => rfl
  · by_cases e1 : k = m
    · subst e1
      rw [ren_same] at i1
      cases i1
      have hj : j ≠ k := fun h => hne h.symm
      rw [upd_other _ _ hj] at g2
      rw [ren_other _ _ hj] at i2
      by_cases e3 : j = n
      · subst e3; rw [upd_same] at g2; cases g2
      · rw [upd_other _ _ e3] at g2
        exact hr.apart n j b c' B base B2 b2 (fun h => e3 h.symm) hb g2 ho hι i2
    · rw [upd_other _ _ e1] at g1
      rw [ren_other _ _ e1] at i1
      by_cases e3 : k = n
      · subst e3; rw [upd_same] at g1; cases g1
      rw [upd_other _ _ e3] at g1
      by_cases e2 : j = m
      · subst e2
        rw [ren_same] at i2
        cases i2
        exact hr.apart k n c b B1 b1 B base e3 g1 hb go i1 hι
      · rw [upd_other _ _ e2] at g2
        rw [ren_other _ _ e2] at i2
        by_cases e4 : j = n
        · subst e4; rw [upd_same] at g2; cases g2
        · rw [upd_other _ _ e4] at g2
          exact hr.apart k j c c' B1 b1 B2 b2 hne g1 g2 go i1 i2
  · by_cases e1 : k = m
    · subst e1
      rw [ren_same] at i1
      cases i1
      exact hr.froz n b B base hb ho hι hz
    · rw [upd_other _ _ e1] at g1
      rw [ren_other _ _ e1] at i1
      by_cases e3 : k = n
      · subst e3; rw [upd_same] at g1; cases g1
      · rw [upd_other _ _ e3] at g1
        exact hr.froz k c B1 b1 g1 go i1 hz
  · by_cases e1 : k = m
    · subst e1; rw [upd_same] at hk; cases hk; cases hq
    · rw [upd_other _ _ e1] at hk
      by_cases e3 : k = n
      · subst e3; rw [upd_same] at hk; cases hk
      · rw [upd_other _ _ e3] at hk; exact ⟨(ren_other _ _ e1).trans (hr.glob k c hk hq).1, (hr.glob k c hk hq).2⟩

/-- Every type's values take less than 2^17 bytes; orders are mixed. -/
structure POk (P : Program) : Prop where
  mixed : P.follows .mixedOrders = true
  bytes : ∀ (t : TypeId) (i : TypeInfo), t < P.types.size → P.info? t = some i → i.bytes ≤ 131072

theorem ask_info {P : Program} {e k : Nat} {z : Value} (hk : ask P (sizeOf e) = some k) (hz : ask P (zeroValue e) = some z) : ∃ i, P.info? e = some i ∧ i.size = k ∧ i.zero = some z := by
  simp only [ask, sizeOf, zeroValue, Sem.run_bind, typeInfo_run] at hk hz
  cases hd : P.info? e with
  | none => rw [hd] at hk; simp at hk
  | some i =>
    rw [hd] at hk hz
    refine ⟨i, rfl, by simpa using hk, ?_⟩
    simp only [Result.andThen_ok] at hz
    cases hi : i.zero with
    | none => simp [hi] at hz
    | some z' => simpa [hi] using hz

/-- The machine's append where there is room. -/
theorem append_room {P : Program} {w w2 : World} {t xt e k sLen sCap n : Nat} {base : Option Addr} {x' : Value} {d : TypeDesc} {N : Array Value} (ty : TypeId)
    (ht : ask P (underlying t) = some (.slice e)) (hxt : ask P (underlying xt) = some d) (hd : ∀ q, d ≠ .int q) (hk : ask P (sizeOf e) = some k)
    (hn : (Builtin.lenOf x').run P w = .ok n w) (hN : (Builtin.firstCells k n x').run P w = .ok N w) (hle : sLen + n ≤ sCap)
    (h2 : (match base with | some a => (storeCells (a.add (sLen * k)) N.toList).run P w | none => .ok () w) = .ok () w2) :
    (Builtin.append_ #[t, xt] ty #[.slice base sLen sCap, x']).run P w = .ok (.slice base (sLen + n) sCap) w2 := by
  cases base with
  | none =>
    simp only [Result.ok.injEq, true_and] at h2
    subst h2
    simp [Builtin.append_, run_und ht w, run_und hxt w, ask_sizeOf hk w, hn, hN, hle]
  | some a =>
    simp only at h2
    simp [Builtin.append_, run_und ht w, run_und hxt w, ask_sizeOf hk w, hn, hN, hle, h2]

/-- The machine's append where there is none. -/
theorem append_grow {P : Program} (hP : POk P) {w : World} {t xt e k sLen sCap n : Nat} {base : Option Addr} {x' : Value} {d : TypeDesc} {O N : Array Value} {z : Value} (ty : TypeId)
    (ht : ask P (underlying t) = some (.slice e)) (hxt : ask P (underlying xt) = some d) (hd : ∀ q, d ≠ .int q) (hk : ask P (sizeOf e) = some k) (hz : ask P (zeroValue e) = some z)
    (hn : (Builtin.lenOf x').run P w = .ok n w) (hN : (Builtin.firstCells k n x').run P w.drew = .ok N w.drew) (hO : (Builtin.firstCells k sLen (.slice base sLen sCap)).run P w.drew = .ok O w.drew)
    (hle : ¬ sLen + n ≤ sCap) (hsz : sLen + n ≤ 1073741824) (hes : e < P.types.size) :
    (Builtin.append_ #[t, xt] ty #[.slice base sLen sCap, x']).run P w =
      .ok (.slice (some ⟨w.heap.size, 0, none⟩) (sLen + n) (grownCap w (sLen + n) sCap e)) (w.drew.alloc (.cells (O ++ N ++ Builtin.zeroCells z.cells (grownCap w (sLen + n) sCap e - (sLen + n))) e)) := by
  obtain ⟨i, hi, rfl, hiz⟩ := ask_info hk hz
  have hb := hP.bytes e i hes hi
  have h63' : ¬ (9223372036854775807 < ((sLen : Int) + (n : Int))) := by omega
  have hfit : (sLen + n) * i.bytes ≤ 140737488355328 := Nat.le_trans (Nat.mul_le_mul hsz hb) (by decide)
  have h48 := growslice_fits (show sCap < sLen + n from by omega) hfit
  have h48' : ¬ (281474976710656 < Builtin.nextslicecap (sLen + n) sCap * i.bytes) := by omega
  simp [Builtin.append_, run_und ht w, run_und hxt w, sizeOf, typeInfo, zeroValue, hi, hiz, hn, hN, hO, hle, h63', h48', Question.forced, newRow, grownCap]

def byteV (b : UInt8) : Value := .int .u8 (b.toNat : Int)

/-- How many elements of k cells a slice has, and its cells. -/
def acellsOf (H : AH) (k : Nat) : Value → Option (Nat × List Value)
  | .slice none 0 0 => some (0, [])
  | .slice (some ⟨n, off, some k'⟩) len _ =>
    match H n with
    | some b => if k' = k ∧ off + len * k ≤ b.cells.length then some (len, (b.cells.drop off).take (len * k)) else none
    | none => none
  | .func (.yield k') _ rows => if k' = k then some (rows.size, rows.toList.flatMap cellsL) else none
  | .string s => if k = 1 then some (s.size, s.data.toList.map byteV) else none
  | _ => none

/-- The cells of rows of one size. -/
theorem rows_cells {k : Nat} : ∀ (l : List Value), (∀ (i : Nat) x, l[i]? = some x → ∃ r : Array Value, x = .agg r ∧ r.size = k) →
    (l.flatMap cellsL).length = l.length * k ∧ ∀ (p : Nat) v, (l.flatMap cellsL)[p]? = some v → ∃ (i j : Nat) (r : Array Value), j < k ∧ p = i * k + j ∧ l[i]? = some (.agg r) ∧ r[j]? = some v
  | [], _ => ⟨by simp, fun p v h => by simp at h⟩
  | x :: xs, h => by
    obtain ⟨r, rfl, hr⟩ := h 0 x rfl
    obtain ⟨h1, h2⟩ := rows_cells (k := k) xs fun i x hi => h (i + 1) x (by simpa using hi)
    refine ⟨?_, fun p v hp => ?_⟩
    · simp only [List.flatMap_cons, List.length_append, h1, cellsL, Array.length_toList, hr, List.length_cons, Nat.succ_mul]
      omega
    · simp only [List.flatMap_cons, cellsL] at hp
      rw [List.getElem?_append] at hp
      simp only [Array.length_toList, hr] at hp
      split at hp
      · rename_i hlt
        exact ⟨0, p, r, hlt, by simp, rfl, by simpa using hp⟩
      · rename_i hge
        obtain ⟨i, j, r', g1, g2, g3, g4⟩ := h2 _ v hp
        exact ⟨i + 1, j, r', g1, by rw [Nat.succ_mul]; omega, by simpa using g3, g4⟩

theorem acellsOf_sound {P : Program} {A : Nat → Prop} {ι : Ren} {H : AH} {Bd : Nat} {w : World} (hr : Rel A ι H Bd w) {k l : Nat} {x x' : Value} {xs : List Value} (hx : VR ι w x x') (h : acellsOf H k x = some (l, xs)) :
    (∀ w', (Builtin.lenOf x').run P w' = .ok l w') ∧ xs.length = l * k ∧ ∃ N : Array Value, LR ι w xs N.toList ∧ ∀ w' : World, w'.heap = w.heap → (Builtin.firstCells k l x').run P w' = .ok N w' := by
  unfold acellsOf at h
  split at h
  · cases h; cases hx
    exact ⟨fun w' => by simp [Builtin.lenOf], by simp, #[], .nil _ _, fun w' _ => by simp [Builtin.firstCells]⟩
  · rename_i n off k' len c
    split at h
    · rename_i b hb
      simp only [Option.ite_none_right_eq_some, Option.some.injEq, Prod.mk.injEq] at h
      obtain ⟨⟨rfl, hle⟩, rfl, rfl⟩ := h
      cases hx with
      | sl hn hlc h0 h1 hA =>
      rename_i c' A'
      refine ⟨fun w' => by simp [Builtin.lenOf], by simp; omega, ?_⟩
      rcases Nat.eq_zero_or_pos (len * k') with hz | hp
      · refine ⟨#[], by rw [hz]; exact .nil _ _, fun w' _ => ?_⟩
        cases A' with
        | none => simp [Builtin.firstCells]
        | some a => simp [Builtin.firstCells, hz, loadCells, loadCellsFrom]
      · have hl0 : 0 < len := Nat.pos_of_mul_pos_right hp
        rcases hA with hA | ⟨B, base, size, hι, rfl, hrow, hsz⟩
        · omega
        rcases hr.blk n b hb with ⟨hvd, _⟩ | ⟨B1, base1, cs, e, fr, g1, g2, g3, g4, g5⟩
        · rw [hι] at hvd; cases hvd
        rw [hι] at g1
        cases g1
        have hcs : base + off + len * k' ≤ cs.size := by
          obtain ⟨v', q, _⟩ := g5 (off + len * k' - 1) (b.cells[off + len * k' - 1]'(by omega)) (by simp)
          have := (Array.getElem?_eq_some_iff.1 q).1; omega
        refine ⟨cs.extract (base + off) (base + off + len * k'), ⟨by simp; omega, fun i v v' h2 h3 => ?_⟩, fun w' hw => ?_⟩
        · rw [List.getElem?_take] at h2
          split at h2
          · rename_i hi
            rw [List.getElem?_drop] at h2
            obtain ⟨u, q1, q2⟩ := g5 (off + i) v h2
            have : cs[base + off + i]? = some v' := by
              rw [Array.getElem?_toList, Array.getElem?_extract] at h3
              split at h3
              · exact h3
              · cases h3
            rw [Nat.add_assoc, q1] at this
            cases this
            exact q2
          · cases h2
        · have g2' : w'.heap[B]? = some (.cells cs e fr) := by rw [hw]; exact g2
          simp only [Builtin.firstCells, loadCells, loadCells_run P g2' (base + off) (len * k') 0 #[] (by omega), Nat.add_zero, Array.empty_append]
    · cases h
  · rename_i k' fs rows
    simp only [Option.ite_none_right_eq_some, Option.some.injEq, Prod.mk.injEq] at h
    obtain ⟨rfl, rfl, rfl⟩ := h
    cases hx with
    | lst0 =>
      rename_i A' c'
      refine ⟨fun w' => by simp [Builtin.lenOf], by simp, #[], .nil _ _, fun w' _ => ?_⟩
      cases A' with
      | none => simp [Builtin.firstCells]
      | some a => simp [Builtin.firstCells, loadCells, loadCellsFrom]
    | lst hfz hB hl hsz hrr hc =>
      rename_i B base c' cs e fr
      obtain ⟨q1, q2⟩ := rows_cells (k := k') rows.toList fun i x hi => hrr i x (by simpa using hi)
      have hm : rows.size * k' ≤ c' * k' := Nat.mul_le_mul_right _ hl
      refine ⟨fun w' => by simp [Builtin.lenOf], by simpa using q1, cs.extract base (base + rows.size * k'), ⟨by rw [q1]; simp; omega, fun p v v' h2 h3 => ?_⟩, fun w' hw => ?_⟩
      · obtain ⟨i, j, r, g1, rfl, g3, g4⟩ := q2 p v h2
        rw [Array.getElem?_toList, Array.getElem?_extract] at h3
        split at h3
        · exact hc i j r v v' (by simpa using g3) g4 (by rw [Nat.add_assoc]; exact h3)
        · cases h3
      · have g2' : w'.heap[B]? = some (.cells cs e fr) := by rw [hw]; exact hB
        simp only [Builtin.firstCells, loadCells, loadCells_run P g2' base (rows.size * k') 0 #[] (by omega), Nat.add_zero, Array.empty_append]
  · rename_i s
    simp only [Option.ite_none_right_eq_some, Option.some.injEq, Prod.mk.injEq] at h
    obtain ⟨rfl, rfl, rfl⟩ := h
    cases hx
    refine ⟨fun w' => by simp [Builtin.lenOf], by simp, s.data.map byteV, ⟨by simp, fun i v v' h1 h2 => ?_⟩, fun w' _ => ?_⟩
    · simp only [Array.toList_map] at h2
      rw [h1] at h2
      cases h2
      rw [List.getElem?_map] at h1
      cases hq : s.data.toList[i]? with
      | none => rw [hq] at h1; cases h1
      | some q => rw [hq] at h1; cases h1; exact .int _ _
    · have : s.extract 0 s.size = s := by
        apply ByteArray.ext
        simp
      simp only [Builtin.firstCells, this, Sem.run_pure]
      rfl
  · cases h

structure App where
  kill : Option Nat
  cells : List Value
  need : Nat
  cap : Nat
  k : Nat

def aappend (P : Program) (H : AH) (ts : List TypeId) (s x : Value) : Option App :=
  match ts with
  | [t, xt] =>
    match ask P (underlying t), ask P (underlying xt) with
    | some (.slice _), some (.int _) => none
    | some (.slice e), some _ =>
      match ask P (sizeOf e), ask P (zeroValue e) with
      | some k, some z =>
        match acellsOf H k x with
        | some (l, xs) =>
          if (cellsL z).length = k ∧ xs.all cellOK = true ∧ e < P.types.size then
            match s with
            | .slice none 0 0 => some ⟨none, xs, l, 0, k⟩
            | .slice (some ⟨n, off, some k'⟩) len c =>
              if k' = k then
                if c = 0 then (if len = 0 then some ⟨none, xs, l, 0, k⟩ else none)
                else
                  match H n with
                  | some b => if b.own = true ∧ off + len * k ≤ b.cells.length then some ⟨some n, (b.cells.drop off).take (len * k) ++ xs, len + l, c - 1, k⟩ else none
                  | none => none
              else none
            | _ => none
          else none
        | none => none
      | _, _ => none
    | _, _ => none
  | _ => none

def appHeap (H : AH) (r : App) (m : Nat) : AH :=
  match r.kill with
  | some n => upd (upd H n none) m (some ⟨r.cells, true⟩)
  | none => upd H m (some ⟨r.cells, true⟩)

def capUp (need cl : Nat) : Nat := if cl ≤ need then need + 1 else cl + 1

def appVal (r : App) (m : Nat) : Value := .slice (some ⟨m, 0, some r.k⟩) r.need (capUp r.need r.cap)

/-- The end of an append in a new row. -/
theorem app_new {A : Nat → Prop} {ι : Ren} {H : AH} {Bd : Nat} {w : World} (hr : Rel A ι H Bd w) {m : Nat} (hm : ι m = none) (hmb : m < Bd) {L : List Value} {O N R : Array Value} {need c k cl : Nat} {e : TypeId}
    (hL : LR ι w L (O ++ N).toList) (hsz : L.length = need * k) (hR : R.size = (c - need) * k) (hc : need ≤ c) (hcl : cl ≤ need ∨ cl ≤ c) :
    Rel A (ren ι m (.at w.heap.size 0)) (upd H m (some ⟨L, true⟩)) Bd (w.drew.alloc (.cells (O ++ N ++ R) e)) ∧
      VR (ren ι m (.at w.heap.size 0)) (w.drew.alloc (.cells (O ++ N ++ R) e)) (.slice (some ⟨m, 0, some k⟩) need (capUp need cl)) (.slice (some ⟨w.heap.size, 0, none⟩) need c) ∧
      Keep A ι w (ren ι m (.at w.heap.size 0)) (w.drew.alloc (.cells (O ++ N ++ R) e)) := by
  have h := (hr.drew).new (e := e) (L := L) (cs := O ++ N ++ R) (fr := (0, 0)) hm hmb (fun i v hv => ?_) (fun i _ h => by simp at h)
  · refine ⟨h, .sl ⟨_, ren_same _ _ _⟩ hc (fun h0 => ?_) ?_ (.inr ⟨w.heap.size, 0, (O ++ N ++ R).size, ren_same _ _ _, rfl, ⟨_, e, (0, 0), alloc_new w.drew _, rfl⟩, ?_⟩), (Keep.drew A w).trans (Keep.alloc A w.drew _)⟩
    · unfold capUp at h0; split at h0 <;> omega
    · unfold capUp; split <;> omega
    · have h1 : L.length = (O ++ N).toList.length := hL.1
      simp only [Array.length_toList] at h1
      rw [Array.size_append, ← h1, hsz, hR, ← Nat.add_mul]
      have : need + (c - need) = c := by omega
      rw [this]; omega
  · have hlt : i < L.length := (List.getElem?_eq_some_iff.1 hv).1
    have hlt' : i < (O ++ N).size := by have := hL.1; simp only [Array.length_toList] at this; omega
    have h2 := hL.2 i v ((O ++ N)[i]) hv (by simp only [Array.getElem?_toList]; exact Array.getElem?_eq_getElem hlt')
    exact ⟨(O ++ N)[i], by rw [Array.getElem?_append_left hlt']; exact Array.getElem?_eq_getElem hlt', VR.mono (w' := w.drew) (Ext.refl ι) (Fro.drew ι w) h2⟩

theorem lset_length : ∀ (vs cells : List Value) (o : Nat), (lset cells o vs).length = cells.length
  | [], _, _ => rfl
  | v :: vs, cells, o => by rw [lset, lset_length vs]; simp
theorem lset_get : ∀ (vs cells : List Value) (o j : Nat), o + vs.length ≤ cells.length → (lset cells o vs)[j]? = if j < o then cells[j]? else if j < o + vs.length then vs[j - o]? else cells[j]?
  | [], cells, o, j, _ => by
    simp only [lset, List.length_nil, Nat.add_zero]
    split
    · rfl
    · rfl
  | v :: vs, cells, o, j, h => by
    simp only [List.length_cons] at h
    rw [lset, lset_get vs _ (o + 1) j (by simp; omega)]
    simp only [List.length_cons]
    by_cases h1 : j < o
    · rw [if_pos (by omega), if_pos h1, List.getElem?_set_ne (by omega)]
    · by_cases h2 : j = o
      · subst h2
        rw [if_pos (by omega), if_neg (by omega), if_pos (by omega), List.getElem?_set_self (by omega)]
        simp
      · rw [if_neg (by omega), if_neg h1]
        by_cases h3 : j < o + 1 + vs.length
        · rw [if_pos h3, if_pos (by omega)]
          obtain ⟨d, rfl⟩ : ∃ d, j = o + 1 + d := ⟨j - (o + 1), by omega⟩
          rw [show o + 1 + d - (o + 1) = d from by omega, show o + 1 + d - o = d + 1 from by omega, List.getElem?_cons_succ]
        · rw [if_neg h3, if_neg (by omega), List.getElem?_set_ne (by omega)]

theorem cellsL_size {z : Value} {k : Nat} (h : (cellsL z).length = k) : z.cells.size = k := by rw [cellsL_eq] at h; simpa using h

theorem aappend_sound {P : Program} (hP : POk P) {A : Nat → Prop} {ι : Ren} {H : AH} {Bd : Nat} {w : World} (hr : Rel A ι H Bd w) {ts : List TypeId} (ty : TypeId) {s x s' x' : Value} (hs : VR ι w s s') (hx : VR ι w x x') {m : Nat} (hm : ι m = none) (hmb : m < Bd)
    {r : App} (h : aappend P H ts s x = some r) (hneed : r.need ≤ 1073741824) :
    ∃ v' w' ι', (Builtin.append_ ts.toArray ty #[s', x']).run P w = .ok v' w' ∧ Rel A ι' (appHeap H r m) Bd w' ∧ VR ι' w' (appVal r m) v' ∧ Keep A ι w ι' w' ∧ ∀ n, n ≠ m → ι' n = ι n := by
  unfold aappend at h
  split at h
  · rename_i t xt
    split at h
    · cases h
    · rename_i e d hni ht hxt
      split at h
      · rename_i k z hk hz
        split at h
        · rename_i l xs hxs
          simp only [Option.ite_none_right_eq_some] at h
          obtain ⟨⟨hzk, hxok, hes⟩, h⟩ := h
          have hd : ∀ q, d ≠ .int q := fun q hq => hni q hq
          obtain ⟨hlen, hxl, N, hN, hNr⟩ := acellsOf_sound (P := P) hr hx hxs
          have hgrow : ∀ (base : Option Addr) (sLen sCap : Nat) (O : Array Value) (L : List Value) (cl : Nat), s' = .slice base sLen sCap → LR ι w L (O ++ N).toList → L.length = (sLen + l) * k → cl ≤ sCap →
              (∀ w' : World, w'.heap = w.heap → (Builtin.firstCells k sLen (.slice base sLen sCap)).run P w' = .ok O w') → sLen + l ≤ 1073741824 → ¬ sLen + l ≤ sCap →
              ∃ v' w', (Builtin.append_ #[t, xt] ty #[s', x']).run P w = .ok v' w' ∧ Rel A (ren ι m (.at w.heap.size 0)) (upd H m (some ⟨L, true⟩)) Bd w' ∧
                VR (ren ι m (.at w.heap.size 0)) w' (.slice (some ⟨m, 0, some k⟩) (sLen + l) (capUp (sLen + l) cl)) v' ∧ Keep A ι w (ren ι m (.at w.heap.size 0)) w' := by
            intro base sLen sCap O L cl hs' hL hLl hcl hO hb hle
            subst hs'
            have hg := append_grow hP (base := base) (sLen := sLen) (sCap := sCap) ty ht hxt hd hk hz (hlen w) (hNr w.drew rfl) (hO w.drew rfl) hle hb hes
            have hge := grownCap_ge w (sLen + l) sCap e
            obtain ⟨q1, q2, q3⟩ := app_new hr (e := e) (cl := cl) (R := Builtin.zeroCells z.cells (grownCap w (sLen + l) sCap e - (sLen + l))) (need := sLen + l) (c := grownCap w (sLen + l) sCap e) hm hmb hL hLl
              (by rw [size_zeroCells, cellsL_size hzk]) hge (.inl (by omega))
            exact ⟨_, _, hg, q1, q2, q3⟩
          have hnil : ∀ (base : Option Addr) (c' : Nat), s' = .slice base 0 c' → c' = 0 → l ≤ 1073741824 →
              ∃ v' w' ι', (Builtin.append_ #[t, xt] ty #[s', x']).run P w = .ok v' w' ∧ Rel A ι' (upd H m (some ⟨xs, true⟩)) Bd w' ∧ VR ι' w' (.slice (some ⟨m, 0, some k⟩) l (capUp l 0)) v' ∧ Keep A ι w ι' w' ∧ ∀ n, n ≠ m → ι' n = ι n := by
            intro base c' hs' hc0 hb
            subst hc0
            by_cases hl0 : l = 0
            · subst hl0
              obtain rfl : xs = [] := List.eq_nil_of_length_eq_zero (by omega)
              have hNe : N = #[] := by have := hN.1; exact Array.eq_empty_of_size_eq_zero (by simpa using this.symm)
              subst hNe
              subst hs'
              refine ⟨_, w, ren ι m .void, append_room ty ht hxt hd hk (hlen w) (hNr w rfl) (Nat.le_refl _) (by cases base <;> simp [storeCells]), hr.void hm hmb, ?_, Keep.refl A w, fun n hn => ren_other _ _ hn⟩
              exact .sl ⟨_, ren_same _ _ _⟩ (by simp) (fun h => by simp [capUp] at h) (by simp [capUp]) (.inl rfl)
            · obtain ⟨v', w', h1, h2, h3, h4⟩ := hgrow base 0 0 #[] xs 0 hs' (by simpa using hN) (by simpa using hxl) (by omega) (fun w' _ => by cases base <;> simp [Builtin.firstCells, loadCells, loadCellsFrom]) (by omega) (by omega)
              simp only [Nat.zero_add] at h3
              exact ⟨v', w', _, h1, h2, h3, h4, fun n hn => ren_other _ _ hn⟩
          split at h
          · cases h; cases hs
            exact hnil none 0 rfl rfl hneed
          · rename_i n off k' len c
            simp only [Option.ite_none_right_eq_some] at h
            obtain ⟨rfl, h⟩ := h
            cases hs with
            | sl hn hlc h0 h1 hA =>
            rename_i c' A'
            split at h
            · rename_i hc
              simp only [Option.ite_none_right_eq_some, Option.some.injEq] at h
              obtain ⟨rfl, rfl⟩ := h
              exact hnil A' c' rfl (h0 hc) hneed
            · rename_i hc
              split at h
              · rename_i b hb
                simp only [Option.ite_none_right_eq_some, Option.some.injEq] at h
                obtain ⟨⟨ho, hle⟩, rfl⟩ := h
                simp only at hneed
                obtain ⟨_, hol, O, hO, hOr⟩ := acellsOf_sound (P := P) (k := k') (l := len) (xs := (b.cells.drop off).take (len * k')) hr (VR.sl hn hlc h0 h1 hA) (by simp [acellsOf, hb, hle])
                by_cases hroom : len + l ≤ c'
                · by_cases hc0 : c' = 0
                  · subst hc0
                    obtain rfl : len = 0 := by omega
                    obtain rfl : l = 0 := by omega
                    obtain rfl : xs = [] := List.eq_nil_of_length_eq_zero (by omega)
                    have hNe : N = #[] := by have := hN.1; exact Array.eq_empty_of_size_eq_zero (by simpa using this.symm)
                    subst hNe
                    refine ⟨_, w, ren ι m .void, append_room ty ht hxt hd hk (hlen w) (hNr w rfl) hroom (by cases A' <;> simp [storeCells]), ?_, ?_, Keep.refl A w, fun n hn => ren_other _ _ hn⟩
                    · have := (hr.kill n).void hm hmb
                      simpa [appHeap] using this
                    · exact .sl ⟨_, ren_same _ _ _⟩ (by simp) (fun h => by simp [capUp] at h; split at h <;> omega) (by simp only [capUp]; split <;> omega) (.inl rfl)
                  · rcases hA with hA | ⟨B, base, size, hι, rfl, hrow, hsz⟩
                    · omega
                    have hmul : (len + l) * k' ≤ c' * k' := Nat.mul_le_mul_right _ hroom
                    have hadd : (len + l) * k' = len * k' + l * k' := Nat.add_mul _ _ _
                    have hbs : base + b.cells.length ≤ size := by
                      rcases Nat.eq_zero_or_pos b.cells.length with h2 | h2
                      · omega
                      rcases hr.blk n b hb with ⟨hvd, _⟩ | ⟨B1, base1, cs, e1, fr, g1, g2, g3, g4, g5⟩
                      · rw [hι] at hvd; cases hvd
                      rw [hι] at g1
                      cases g1
                      obtain ⟨v', q, _⟩ := g5 (b.cells.length - 1) (b.cells[b.cells.length - 1]'(by omega)) (by simp)
                      have hq := (Array.getElem?_eq_some_iff.1 q).1
                      obtain ⟨cs', e', fr', q2, q3⟩ := hrow
                      rw [g2] at q2
                      cases q2
                      omega
                    have hr2 := hr.extend (m := off + (len + l) * k' - b.cells.length) hb hι hrow (by omega) ho
                    obtain ⟨w2, s1, s2, s3⟩ := storeCells_run P (base := base) (off + len * k') xs N.toList _ w ⟨b.cells ++ List.replicate (off + (len + l) * k' - b.cells.length) unk, b.own⟩ 0 hr2 (upd_same _ _ _) ho hι hN hxok
                      (by simp; omega)
                    rw [upd_upd] at s2
                    have s4 := s2.move (m := m) (off := off) (L := (b.cells.drop off).take (len * k') ++ xs) (upd_same _ _ _) rfl hι hm hmb (fun i v hv => ?_)
                    · refine ⟨_, w2, ren ι m (.at B (base + off)), append_room ty ht hxt hd hk (hlen w) (hNr w rfl) hroom ?_, ?_, ?_, s3.trans (Keep.refl A w2), fun n hn => ren_other _ _ hn⟩
                      · simp only [add_addr, Nat.add_assoc]
                        exact s1
                      · simp only [appHeap]
                        rw [upd_upd] at s4
                        exact s4
                      · refine .sl ⟨_, ren_same _ _ _⟩ hroom (fun h => ?_) ?_ (.inr ⟨B, base + off, size, ren_same _ _ _, by simp, hrow.mono s3.rows.rows, by omega⟩)
                        · simp only [capUp] at h; split at h <;> omega
                        · simp only [capUp]; split <;> omega
                    · simp only [Nat.add_zero]
                      rw [lset_get _ _ _ _ (by simp; omega)]
                      rw [List.getElem?_append] at hv
                      have hl1 : ((b.cells.drop off).take (len * k')).length = len * k' := by simp; omega
                      rw [hl1] at hv
                      split at hv
                      · rename_i hi
                        rw [if_pos (by omega), List.getElem?_append_left (by omega)]
                        rw [List.getElem?_take, if_pos hi, List.getElem?_drop] at hv
                        exact hv
                      · rename_i hi
                        have hi2 : i - len * k' < xs.length := (List.getElem?_eq_some_iff.1 hv).1
                        rw [if_neg (by omega), if_pos (by omega), show off + i - (off + len * k') = i - len * k' from by omega]
                        exact hv
                · obtain ⟨v', w', q1, q2, q3, q4⟩ := hgrow A' len c' O _ (c - 1) rfl (by rw [Array.toList_append]; exact hO.append hN) (by rw [List.length_append, hol, hxl, Nat.add_mul]) (by omega) hOr hneed hroom
                  refine ⟨v', w', ren ι m (.at w.heap.size 0), q1, ?_, q3, q4, fun n hn => ren_other _ _ hn⟩
                  refine q2.sub fun j c hj => ?_
                  simp only [appHeap] at hj
                  by_cases e1 : j = m
                  · subst e1
                    rw [upd_same] at hj ⊢
                    exact hj
                  · rw [upd_other _ _ e1] at hj ⊢
                    by_cases e2 : j = n
                    · subst e2; rw [upd_same] at hj; cases hj
                    · rw [upd_other _ _ e2] at hj; exact hj
              · cases h
          · cases h
        · cases h
      · cases h
    · cases h
  · cases h

end Go.SC
