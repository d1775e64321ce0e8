/- Maps whose entries all stand in a table: made, asked, and entered into. -/
import Derived.Test.YthhcemhignihlaaDoorScJ
import Derived.WideKeyRuns
set_option linter.unusedSimpArgs false
set_option linter.unusedVariables false
namespace Go.SC
open Go

/-- A type of maps from pairs of numbers to Booleans. -/
structure MapTy (P : Program) (t : TypeId) : Prop where
  ex : ∃ kt et e i, P.underlying t = some (.map kt et) ∧ P.underlying kt = some (.array 2 e) ∧ P.underlying e = some (.int .i64) ∧ ask P (isAgg e) = some false ∧ P.info? e = some i ∧ P.cellsOf e = 1 ∧ ask P (zeroValue et) = some (.bool false)
def mapTy (P : Program) (t : TypeId) : Bool := match P.underlying t with
  | some (.map kt et) => match P.underlying kt with
    | some (.array 2 e) => match P.underlying e with
      | some (.int .i64) => (match ask P (isAgg e) with | some false => true | _ => false) && (match P.info? e with | some _ => P.cellsOf e == 1 | none => false) && (match ask P (zeroValue et) with | some (.bool false) => true | _ => false)
      | _ => false
    | _ => false
  | _ => false
theorem mapTy_out {P : Program} {t : TypeId} (h : mapTy P t = true) : MapTy P t := by
  unfold mapTy at h
  split at h
  · rename_i kt et h1
    split at h
    · rename_i e h2
      split at h
      · rename_i h3
        simp only [Bool.and_eq_true] at h
        obtain ⟨⟨h4, h5⟩, h6⟩ := h
        split at h4
        · rename_i h4'
          split at h5
          · rename_i i h5'
            split at h6
            · rename_i h6'
              exact ⟨kt, et, e, i, h1, h2, h3, h4', h5', by simpa using h5, h6'⟩
            · cases h6
          · cases h5
        · cases h4
      · cases h
    · cases h
  · cases h

def mrows : Value → Option (Array Value)
  | .func (.methodOf _ _) _ rows => some rows
  | _ => none
def pairKey : Value → Option (Int × Int)
  | .agg cs => match cs.toList with
    | [.int .i64 i, .int .i64 j] => some (i, j)
    | _ => none
  | _ => none
theorem pairKey_out {v : Value} {i j : Int} (h : pairKey v = some (i, j)) : v = .agg #[.int .i64 i, .int .i64 j] := by
  unfold pairKey at h
  split at h
  · rename_i cs
    split at h
    · rename_i a b hc
      cases h
      obtain ⟨l⟩ := cs
      simp only at hc
      subst hc
      rfl
    · cases h
  · cases h
def alookup (P : Program) (t : TypeId) (x i : Value) : Option Bool :=
  if mapTy P t = true then match mrows x, pairKey i with
    | some rows, some (i, j) => if 0 ≤ i ∧ 0 ≤ j ∧ j < 32 then match rows[i.toNat * 32 + j.toNat]? with
      | some (.bool b) => some b
      | _ => none else none
    | _, _ => none else none
theorem alookup_out {P : Program} {t : TypeId} {x k : Value} {b : Bool} (h : alookup P t x k = some b) : MapTy P t ∧ ∃ rows, mrows x = some rows ∧ ∃ i j : Nat, k = .agg #[.int .i64 i, .int .i64 j] ∧ j < 32 ∧ rows[i * 32 + j]? = some (.bool b) := by
  unfold alookup at h
  split at h
  · rename_i ht
    split at h
    · rename_i rows i j h1 h2
      split at h
      · rename_i h3
        split at h
        · rename_i c h4
          cases h
          refine ⟨mapTy_out ht, rows, h1, i.toNat, j.toNat, ?_, by omega, h4⟩
          rw [pairKey_out h2, Int.toNat_of_nonneg h3.1, Int.toNat_of_nonneg h3.2.1]
        · cases h
      · cases h
    · cases h
  · cases h
theorem alookup_rule {P : Program} {t : TypeId} (ht : mapTy P t = true) {rows : Array Value} {i j : Nat} {b : Bool} (hj : j < 32) (h : rows[i * 32 + j]? = some (.bool b)) :
    alookup P t (.func (.methodOf 0 "") #[] rows) (.agg [.int .i64 i, .int .i64 j].toArray) = some b := by
  unfold alookup
  rw [if_pos ht]
  simp only [mrows, pairKey]
  rw [if_pos ⟨by omega, by omega, by omega⟩]
  simp only [Int.toNat_natCast, h]
theorem mrows_out {ι : Ren} {w : World} {x x' : Value} {rows : Array Value} (hx : VR ι w x x') (h : mrows x = some rows) : ∃ B, x' = .map (some B) ∧ ι.mp B = some rows := by
  unfold mrows at h
  split at h
  · cases h
    cases hx with
    | mp h => exact ⟨_, rfl, h⟩
  · cases h

/-! ### keys -/
section
variable {P : Program} (w : World)
theorem part_two {e : TypeId} (ha : ask P (isAgg e) = some false) (a b : Value) (i : Nat) (hi : i < 2) : (part e #[a, b] (i * 1)).run P w = .ok (if i = 0 then a else b) w := by
  refine part_cell ha ?_ w
  match i, hi with
  | 0, _ => rfl
  | 1, _ => rfl
theorem range_two : List.range' 0 2 = [0, 1] := rfl
theorem run_checkKey_two {kt e : TypeId} {i : _} (hk : P.underlying kt = some (.array 2 e)) (he : P.underlying e = some (.int .i64)) (ha : ask P (isAgg e) = some false) (hi : P.info? e = some i) (hs : P.cellsOf e = 1) (em : Bool) (n : Nat) (a b : Int) :
    (Instr.checkKey em (n + 2) kt (.agg #[.int .i64 a, .int .i64 b])).run P w = .ok () w := by
  have h1 : ∀ (c : Int), (Instr.checkKey em (n + 1) e (.int .i64 c)).run P w = .ok () w := fun c => by simp [Instr.checkKey, run_underlying he]
  have p0 : (part e #[.int .i64 a, .int .i64 b] 0).run P w = .ok (.int .i64 a) w := part_two w ha _ _ 0 (by omega)
  have p1 : (part e #[.int .i64 a, .int .i64 b] 1).run P w = .ok (.int .i64 b) w := part_two w ha _ _ 1 (by omega)
  rw [show n + 2 = (n + 1) + 1 from rfl, Instr.checkKey]
  simp only [Sem.run_bind, run_underlying hk, Result.andThen_ok]
  simp only [Std.Legacy.Range.forIn_eq_forIn_range', Std.Legacy.Range.size, Nat.sub_zero, Nat.add_one_sub_one, Nat.div_one, range_two]
  simp only [List.forIn_cons, List.forIn_nil, Sem.run_bind, run_sizeOf w hi, hs, Result.andThen_ok, Nat.zero_mul, Nat.one_mul, p0, p1, h1, Sem.run_pure]
theorem run_equal_two {kt e : TypeId} {i : _} (hk : P.underlying kt = some (.array 2 e)) (he : P.underlying e = some (.int .i64)) (ha : ask P (isAgg e) = some false) (hi : P.info? e = some i) (hs : P.cellsOf e = 1) (a b c d : Int) :
    (Op.equal kt (.agg #[.int .i64 a, .int .i64 b]) (.agg #[.int .i64 c, .int .i64 d])).run P w = .ok (decide (a = c ∧ b = d)) w := by
  have h1 : ∀ (n : Nat) (x y : Int), (Op.equalIn (n + 1) e (.int .i64 x) (.int .i64 y)).run P w = .ok (x == y) w := fun n x y => by simp [Op.equalIn, run_underlying he]
  have p0 : (part e #[.int .i64 a, .int .i64 b] 0).run P w = .ok (.int .i64 a) w := part_two w ha _ _ 0 (by omega)
  have p1 : (part e #[.int .i64 a, .int .i64 b] 1).run P w = .ok (.int .i64 b) w := part_two w ha _ _ 1 (by omega)
  have q0 : (part e #[.int .i64 c, .int .i64 d] 0).run P w = .ok (.int .i64 c) w := part_two w ha _ _ 0 (by omega)
  have q1 : (part e #[.int .i64 c, .int .i64 d] 1).run P w = .ok (.int .i64 d) w := part_two w ha _ _ 1 (by omega)
  rw [Op.equal, show Op.maxDepth = 9998 + 1 + 1 from rfl, Op.equalIn]
  simp only [Sem.run_bind, run_underlying hk, Result.andThen_ok, run_sizeOf w hi, hs]
  simp only [Std.Legacy.Range.forIn_eq_forIn_range', Std.Legacy.Range.size, Nat.sub_zero, Nat.add_one_sub_one, Nat.div_one, range_two]
  simp only [List.forIn_cons, List.forIn_nil, Sem.run_bind, Result.andThen_ok, Nat.zero_mul, Nat.one_mul, p0, p1, q0, q1, h1, Sem.run_pure]
  by_cases e1 : a = c
  · subst e1
    by_cases e2 : b = d
    · subst e2; simp [p1, h1]
    · simp [p1, q1, h1, e2]
  · simp [e1]
theorem run_asking {kt e : TypeId} {i : _} (hk : P.underlying kt = some (.array 2 e)) (he : P.underlying e = some (.int .i64)) (ha : ask P (isAgg e) = some false) (hi : P.info? e = some i) (hs : P.cellsOf e = 1) (rows : Array Value) (a b : Nat) :
    ∀ (es : List MapEntry) (n : Nat), (∀ x ∈ es, memoOK rows x.key x.val) →
      (Instr.findAsking kt (.agg #[.int .i64 a, .int .i64 b]) es n).run P w = .ok none w ∨
      ∃ j x, (Instr.findAsking kt (.agg #[.int .i64 a, .int .i64 b]) es n).run P w = .ok (some (n + j, x.val)) w ∧ es[j]? = some x ∧ x.key = .agg #[.int .i64 a, .int .i64 b]
  | [], n, _ => .inl (by simp [Instr.findAsking])
  | x :: es, n, h => by
    obtain ⟨i1, j1, c, e1, _, _, _⟩ := h x (by simp)
    have hq := run_equal_two w hk he ha hi hs (a : Int) b i1 j1
    by_cases heq : (a : Int) = i1 ∧ (b : Int) = j1
    · refine .inr ⟨0, x, ?_, rfl, ?_⟩
      · have hq' := hq
        rw [decide_eq_true heq] at hq'
        simp only [Instr.findAsking, Sem.run_bind, e1, hq', Result.andThen_ok, if_true, Sem.run_pure, Nat.add_zero]
      · rw [e1, heq.1, heq.2]
    · rcases run_asking hk he ha hi hs rows a b es (n + 1) (fun y hy => h y (by simp [hy])) with h1 | ⟨j, y, h1, h2, h3⟩
      · refine .inl ?_
        simp only [Instr.findAsking, Sem.run_bind, e1, hq, Result.andThen_ok, heq, decide_false, Bool.false_eq_true, if_false, h1]
      · refine .inr ⟨j + 1, y, ?_, by simpa using h2, h3⟩
        simp only [Instr.findAsking, Sem.run_bind, e1, hq, Result.andThen_ok, heq, decide_false, Bool.false_eq_true, if_false, h1]
        rw [show n + 1 + j = n + (j + 1) by omega]
end

theorem getObj_map {P : Program} {w : World} {r : Nat} {es : Array MapEntry} {clock : Nat} (h : w.heap[r]? = some (.map es clock)) : (getObj r).run P w = .ok (.map es clock) w := by simp [getObj, Sem.run, h]
theorem vr_key {ι : Ren} {w : World} {i j : Int} {k' : Value} (h : VR ι w (.agg #[.int .i64 i, .int .i64 j]) k') : k' = .agg #[.int .i64 i, .int .i64 j] := by
  cases h with
  | agg hs h =>
    rename_i ys
    obtain ⟨l⟩ := ys
    match l, hs with
    | [x, y], _ =>
      have h0 := h 0 _ x rfl rfl
      have h1 := h 1 _ y rfl rfl
      cases h0; cases h1; rfl

theorem alookup_sound {P : Program} {A : Nat → Prop} {ι : Ren} {H : AH} {Bd : Nat} {w : World} {t : TypeId} {x k x' k' : Value} {b : Bool} (hr : Rel A ι H Bd w) (hx : VR ι w x x') (hk : VR ι w k k') (h : alookup P t x k = some b) :
    ∃ v ok, (Instr.lookup t x' k' true).run P w = .ok (.tuple #[.bool v, .bool ok]) w ∧ ((v = b ∧ ok = true) ∨ (v = false ∧ ok = false)) := by
  obtain ⟨⟨kt, et, e, i, h1, h2, h3, h4, h5, h6, h7⟩, rows, hm, a, c, rfl, hc, hrow⟩ := alookup_out h
  obtain ⟨B, rfl, hmp⟩ := mrows_out hx hm
  obtain ⟨hA, es, clock, hB, hes⟩ := hr.mp B rows hmp
  obtain rfl := vr_key hk
  have hck := run_checkKey_two w h2 h3 h4 h5 h6 es.isEmpty 9998 (a : Int) c
  have hfk := run_findKey_eq (P := P) w (k := kt) (by simp [h2]) (.agg #[.int .i64 a, .int .i64 c]) es.toList
  have hz : (zeroValue et).run P w = .ok (.bool false) w := ask_zero h7 w
  rcases run_asking w h2 h3 h4 h5 h6 rows a c es.toList 0 (fun y hy => hes y (Array.mem_toList_iff.1 hy)) with g | ⟨j, y, g1, g2, g3⟩
  · refine ⟨false, false, ?_, .inr ⟨rfl, rfl⟩⟩
    simp only [Instr.lookup, Sem.run_bind, run_underlying h1, Result.andThen_ok, getObj_map hB, Sem.run_pure, hck, hfk, g, hz, if_true]
  · have hy := hes y (Array.mem_toList_iff.1 (List.mem_of_getElem? g2))
    obtain ⟨i1, j1, b1, e1, e2, e3, e4⟩ := hy
    rw [g3] at e1
    simp only [Value.agg.injEq, Array.mk.injEq, List.cons.injEq, Value.int.injEq, true_and, and_true] at e1
    obtain ⟨q1, q2⟩ := e1
    have q1' : a = i1 := by omega
    have q2' : c = j1 := by omega
    subst q1'; subst q2'
    rw [hrow] at e4
    cases e4
    refine ⟨b, true, ?_, .inl ⟨rfl, rfl⟩⟩
    simp only [Instr.lookup, Sem.run_bind, run_underlying h1, Result.andThen_ok, getObj_map hB, Sem.run_pure, hck, hfk, g1, e2, if_true]

/-! ### an entry more -/
def amapset (P : Program) (t : TypeId) (m k v : Value) : Bool := match alookup P t m k, v with
  | some b, .bool c => b == c
  | _, _ => false
theorem Rel.mapset {A : Nat → Prop} {ι : Ren} {H : AH} {Bd : Nat} {w : World} (hr : Rel A ι H Bd w) {B : Nat} {rows : Array Value} (hmp : ι.mp B = some rows) {es : Array MapEntry} {c : Nat} (hes : ∀ e ∈ es, memoOK rows e.key e.val) :
    Rel A ι H Bd { w with heap := w.heap.setIfInBounds B (.map es c) } ∧ Keep A ι w ι { w with heap := w.heap.setIfInBounds B (.map es c) } := by
  obtain ⟨hA, es0, c0, hB, _⟩ := hr.mp B rows hmp
  have hlt : B < w.heap.size := (Array.getElem?_eq_some_iff.1 hB).1
  have hne : ∀ B', B' ≠ B → (w.heap.setIfInBounds B (.map es c))[B']? = w.heap[B']? := fun B' h => Array.getElem?_setIfInBounds_ne (fun e => h e.symm)
  have hsame : (w.heap.setIfInBounds B (.map es c))[B]? = some (.map es c) := Array.getElem?_setIfInBounds_self_of_lt hlt
  have hcell : ∀ (B' : Nat) (cs : Array Value) (e : TypeId) (fr : Nat × Nat), w.heap[B']? = some (Obj.cells cs e fr) → B' ≠ B := fun B' cs e fr h e1 => by subst e1; rw [hB] at h; cases h
  have hfro : Fro ι w { w with heap := w.heap.setIfInBounds B (.map es c) } := by
    refine ⟨fun B' cs e fr h => ⟨cs, fr, (hne B' (hcell B' cs e fr h)).trans h, rfl⟩, fun B' cs e fr _ hx => (hne B' (hcell B' cs e fr hx)).trans hx⟩
  have hbr : ∀ n b, H n = some b → ∀ B' base, ι n = some (.at B' base) → B' ≠ B := fun n b hn B' base h1 => by
    rcases hr.blk n b hn with ⟨hv, _⟩ | ⟨B1, base1, cs, e1, fr, g1, g2, _⟩
    · rw [h1] at hv; cases hv
    · rw [h1] at g1; cases g1; exact hcell _ _ _ _ g2
  refine ⟨⟨hr.bound, fun n b hn => (hr.blk n b hn).mono (Ext.refl ι) hfro fun B' base h1 => hne B' (hbr n b hn B' base h1), hr.apart, fun B' h => hr.newA B' (by simpa using h), hr.froz, fun B' h => by simpa using hr.fzlt B' h,
    fun n b h1 h2 => ⟨(hr.glob n b h1 h2).1, (hr.glob n b h1 h2).2.mono hfro.rows⟩, fun B' p hp => ⟨(hr.mp B' p hp).1, ?_⟩⟩, ⟨rfl, rfl, rfl, by simp, fun B' h hA' => hne B' fun e => hA' (e ▸ hA), hfro, FzLe.refl _, fun _ h => .inl h⟩⟩
  by_cases e : B' = B
  · subst e
    rw [hmp] at hp
    cases hp
    exact ⟨es, c, hsame, hes⟩
  · exact (hr.mp B' p hp).2.other (hne B' e)

theorem sameBits_key (n : Nat) (i j : Int) : Instr.sameBits (n + 2) (.agg #[.int .i64 i, .int .i64 j]) (.agg #[.int .i64 i, .int .i64 j]) = true := by
  simp [Instr.sameBits]

theorem amapset_sound {P : Program} {A : Nat → Prop} {ι : Ren} {H : AH} {Bd : Nat} {w : World} {t : TypeId} {x k v x' k' v' : Value} (hr : Rel A ι H Bd w) (hx : VR ι w x x') (hk : VR ι w k k') (hv : VR ι w v v') (h : amapset P t x k v = true) :
    ∃ w', (Instr.mapUpdate t x' k' v').run P w = .ok () w' ∧ Rel A ι H Bd w' ∧ Keep A ι w ι w' := by
  unfold amapset at h
  split at h
  · rename_i b c hl
    have hbc : b = c := by simpa using h
    subst hbc
    obtain ⟨⟨kt, et, e, i, h1, h2, h3, h4, h5, h6, h7⟩, rows, hm, a, j0, rfl, hc, hrow⟩ := alookup_out hl
    obtain ⟨B, rfl, hmp⟩ := mrows_out hx hm
    obtain ⟨hA, es, clock, hB, hes⟩ := hr.mp B rows hmp
    obtain rfl := vr_key hk
    cases hv
    have hck := run_checkKey_two w h2 h3 h4 h5 h6 false 9998 (a : Int) j0
    have hfk := run_findKey_eq (P := P) w (k := kt) (by simp [h2]) (.agg #[.int .i64 a, .int .i64 j0]) es.toList
    have hset : ∀ (es' : Array MapEntry) (c' : Nat), (setObj B (.map es' c')).run P w = .ok () { w with heap := w.heap.setIfInBounds B (.map es' c') } := fun es' c' => by simp [setObj, Sem.run, hB]
    rcases run_asking w h2 h3 h4 h5 h6 rows a j0 es.toList 0 (fun y hy => hes y (Array.mem_toList_iff.1 hy)) with g | ⟨j, y, g1, g2, g3⟩
    · refine ⟨_, ?_, hr.mapset hmp (es := es.push ⟨.agg #[.int .i64 a, .int .i64 j0], .bool b, clock⟩) (c := clock + 1) fun y hy => ?_⟩
      · simp only [Instr.mapUpdate, Sem.run_bind, run_underlying h1, Result.andThen_ok, getObj_map hB, hck, hfk, g, hset]
      · rcases Array.mem_push.1 hy with hy | rfl
        · exact hes y hy
        · exact ⟨a, j0, b, rfl, rfl, hc, hrow⟩
    · have hy := hes y (Array.mem_toList_iff.1 (List.mem_of_getElem? g2))
      have g2' : es[j]? = some y := by simpa using g2
      have hsb := sameBits_key 9998 (a : Int) j0
      refine ⟨_, ?_, hr.mapset hmp (es := es.modify j fun e => { e with key := .agg #[.int .i64 a, .int .i64 j0], val := .bool b }) (c := clock) fun z hz => ?_⟩
      · simp only [Instr.mapUpdate, Sem.run_bind, run_underlying h1, Result.andThen_ok, getObj_map hB, hck, hfk, g1, hset, Nat.zero_add, g2', Option.map_some, Option.getD_some, g3, Instr.keyThatStays, hsb, if_true, Sem.run_pure]
      · obtain ⟨m, hm1, rfl⟩ := Array.getElem_of_mem hz
        rw [Array.getElem_modify]
        split
        · exact ⟨a, j0, b, rfl, rfl, hc, hrow⟩
        · exact hes _ (Array.getElem_mem _)
  · cases h

theorem amakeMap_sound {P : Program} {A : Nat → Prop} {ι : Ren} {H : AH} {Bd : Nat} {w : World} (hr : Rel A ι H Bd w) (t : TypeId) (rows : Array Value) :
    ∃ v ι' w', (Instr.makeMap t none).run P w = .ok v w' ∧ Rel A ι' H Bd w' ∧ VR ι' w' (.func (.methodOf 0 "") #[] rows) v ∧ Keep A ι w ι' w' ∧ ∀ n, ι' n = ι n := by
  have hno : ι.mp w.heap.size = none := by
    cases h : ι.mp w.heap.size with
    | none => rfl
    | some p =>
      obtain ⟨_, es, c, hB, _⟩ := hr.mp _ p h
      have := (Array.getElem?_eq_some_iff.1 hB).1
      omega
  have hle : FzLe ι ⟨ι.m, ι.fz, fun B => if B = w.heap.size then some rows else ι.mp B⟩ := by
    refine ⟨fun _ h => h, fun B p h => ?_⟩
    show (if B = w.heap.size then some rows else ι.mp B) = some p
    rw [if_neg (fun e => by rw [e, hno] at h; cases h)]; exact h
  have hx : Ext ι ⟨ι.m, ι.fz, fun B => if B = w.heap.size then some rows else ι.mp B⟩ := ⟨fun _ _ h => h, hle⟩
  refine ⟨_, ⟨ι.m, ι.fz, fun B => if B = w.heap.size then some rows else ι.mp B⟩, w.alloc (.map #[] 0), by simp only [Instr.makeMap, Sem.run_bind, run_newObj_alloc, Result.andThen_ok, Sem.run_pure], ?_, .mp (if_pos rfl), Keep.alloc A w _ hle, fun _ => rfl⟩
  refine ⟨hr.bound, fun n b hn => (hr.blk n b hn).mono hx (fro_alloc ι w _) fun B base hB => RowKit.Below.heap_alloc w _ B (hr.lt hn hB), hr.apart, fun B hB => hr.newA B (by simp at hB; omega), hr.froz, fun B hB => by have := hr.fzlt B hB; simp; omega,
    fun n b h1 h2 => ⟨(hr.glob n b h1 h2).1, (hr.glob n b h1 h2).2.mono (rows_alloc w _)⟩, fun B p hp => ?_⟩
  · replace hp : (if B = w.heap.size then some rows else ι.mp B) = some p := hp
    by_cases e : B = w.heap.size
    · rw [if_pos e] at hp
      cases hp
      subst e
      exact ⟨hr.newA _ (Nat.le_refl _), #[], 0, alloc_new w _, fun y hy => by simp at hy⟩
    · rw [if_neg e] at hp
      exact ⟨(hr.mp B p hp).1, (hr.mp B p hp).2.alloc _⟩
end Go.SC
