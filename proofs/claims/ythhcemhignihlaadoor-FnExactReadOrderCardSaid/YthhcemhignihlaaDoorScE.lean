/- The quiet operations, all of them, with loads. -/
import Derived.Test.YthhcemhignihlaaDoorScD
import Derived.Laws.Slices
namespace Go.SC
open Go

def aint? : Value → Option Int
  | .int _ i => some i
  | _ => none

/-- A bound of a slice expression: none given: d. -/
def abound (s : List Value) (d : Int) : Option Operand → Option Int
  | none => some d
  | some o => aint? (ev s o)

/-- What is known of a slice's capacity. -/
def capLow (c : Nat) : Nat := c - 1

/-- A type of slices whose elements' size is known. -/
def sizedS (P : Program) (t : TypeId) : Bool := match P.underlying t with | some (.slice e) => (ask P (sizeOf e)).isSome | _ => false
theorem sizedS_out {P : Program} {t : TypeId} (h : sizedS P t = true) : ∃ e k, P.underlying t = some (.slice e) ∧ ask P (sizeOf e) = some k := by
  unfold sizedS at h; split at h
  · rename_i e he
    obtain ⟨k, hk⟩ := Option.isSome_iff_exists.1 h
    exact ⟨e, k, he, hk⟩
  · cases h

def aslice (P : Program) (s : List Value) (t : TypeId) (x : Value) (lo hi mx : Option Operand) : Option Value :=
  match x with
  | .string b =>
    match abound s 0 lo, abound s b.size hi, mx with
    | some l, some h, none => if undString P t = true ∧ 0 ≤ l ∧ l ≤ h ∧ h ≤ b.size then some (.string (b.extract l.toNat h.toNat)) else none
    | _, _, _ => none
  | .slice none 0 0 =>
    match abound s 0 lo, abound s 0 hi, mx with
    | some l, some h, none => if sizedS P t = true ∧ l = 0 ∧ h = 0 then some (.slice none 0 0) else none
    | some l, some h, some mo =>
      match aint? (ev s mo), hi with
      | some m, some _ => if sizedS P t = true ∧ l = 0 ∧ h = 0 ∧ m = 0 then some (.slice none 0 0) else none
      | _, _ => none
    | _, _, _ => none
  | .slice (some ⟨n, off, some k⟩) len c =>
    match ask P (underlying t) with
    | some (.slice e) =>
      if ask P (sizeOf e) = some k then
        match abound s 0 lo, abound s len hi, mx with
        | some l, some h, none => if 0 ≤ l ∧ l ≤ h ∧ h ≤ (c - 1 : Nat) then some (.slice (some ⟨n, off + l.toNat * k, some k⟩) (h - l).toNat (c - l.toNat)) else none
        | some l, some h, some mo =>
          match aint? (ev s mo), hi with
          | some m, some _ =>
            if 0 ≤ l ∧ l ≤ h ∧ h ≤ m ∧ m ≤ (c - 1 : Nat) then
              some (.slice (some ⟨n, off + l.toNat * k, some k⟩) (h - l).toNat (if m = l then 0 else (m - l).toNat + 1))
            else none
          | _, _ => none
        | _, _, _ => none
      else none
    | _ => none
  | .func (.yield k) _ rows =>
    match ask P (underlying t) with
    | some (.slice e) =>
      if ask P (sizeOf e) = some k then
        match abound s 0 lo, abound s rows.size hi, mx with
        | some l, some h, none => if 0 ≤ l ∧ l ≤ h ∧ h ≤ rows.size then some (.func (.yield k) #[] (rows.extract l.toNat h.toNat)) else none
        | _, _, _ => none
      else none
    | _ => none
  | _ => none

/-- A part of a list that is never written again. -/
theorem lst_part {ι : Ren} {w : World} {k l h : Nat} {fs rows : Array Value} {v' : Value} (hx : VR ι w (.func (.yield k) fs rows) v') (h1 : l ≤ h) (h2 : h ≤ rows.size) :
    ∃ A c', v' = .slice A rows.size c' ∧ rows.size ≤ c' ∧ VR ι w (.func (.yield k) #[] (rows.extract l h)) (.slice (if c' = l then A else A.map (·.add (l * k))) (h - l) (c' - l)) := by
  have key : ∀ A c', rows.size ≤ c' → l = h → VR ι w (.func (.yield k) #[] (rows.extract l h)) (.slice (if c' = l then A else A.map (·.add (l * k))) (h - l) (c' - l)) := by
    intro A c' hc e
    subst e
    have : rows.extract l l = #[] := by simp; omega
    rw [this, Nat.sub_self]
    exact .lst0
  cases hx with
  | lst0 =>
    rename_i A c'
    exact ⟨A, c', rfl, Nat.zero_le _, key A c' (Nat.zero_le _) (by simp at h2; omega)⟩
  | lst hfz hB hl hsz hr hc =>
    rename_i B base c' cs e fr
    refine ⟨_, c', rfl, hl, ?_⟩
    by_cases e1 : l = h
    · exact key _ c' hl e1
    · rw [if_neg (by omega)]
      have hs : (rows.extract l h).size = h - l := by simp; omega
      have hm : l * k + (c' - l) * k = c' * k := by rw [← Nat.add_mul]; congr 1; omega
      have hadd : Option.map (fun x : Addr => x.add (l * k)) (some ⟨B, base, none⟩) = some ⟨B, base + l * k, none⟩ := by
        simp only [Option.map_some]
        unfold Addr.add
        split <;> simp_all
      rw [hadd]
      have hg : ∀ (i : Nat) x, (rows.extract l h)[i]? = some x → rows[l + i]? = some x := fun i x hi => by
        rw [Array.getElem?_extract] at hi
        split at hi
        · exact hi
        · cases hi
      have hlst := VR.lst (ι := ι) (w := w) (k := k) (rows := rows.extract l h) (base := base + l * k) (c' := c' - l) hfz hB (by omega) (by omega) (fun i x hi => hr _ x (hg i x hi)) (fun i j r v v' h3 h4 h5 => hc (l + i) j r v v' (hg i _ h3) h4 (by
        rw [← h5]; congr 1; rw [Nat.add_mul]; omega))
      rw [hs] at hlst
      exact hlst

theorem aint_sound' {ι : Ren} {w : World} {s : List Value} {a : Act} (hs : SR ι w s a.tmps) {o : Operand} {i : Int} (h : aint? (ev s o) = some i) :
    ∃ k, a.eval o = .int k i := by
  have hv := hs.ev o
  generalize ev s o = x at h hv
  cases x <;> simp [aint?] at h
  subst h
  generalize a.eval o = y at hv ⊢
  cases hv
  exact ⟨_, rfl⟩

theorem bounds_none {P : Program} {ι : Ren} {w : World} {s : List Value} {a : Act} (hs : SR ι w s a.tmps) {lo hi : Option Operand} {len cap : Nat} {l h : Int} (isS : Bool)
    (hl : abound s 0 lo = some l) (hh : abound s len hi = some h) (h0 : 0 ≤ l) (h1 : l ≤ h) (h2 : h ≤ cap) :
    (Instr.sliceBounds isS len cap (lo.map a.eval) (hi.map a.eval) none).run P w = .ok (l.toNat, h.toNat, cap) w := by
  unfold Instr.sliceBounds
  cases hi with
  | none =>
    simp only [abound, Option.some.injEq] at hh; subst hh
    cases lo with
    | none =>
      simp only [abound, Option.some.injEq] at hl; subst hl
      simp
    | some ol =>
      obtain ⟨k, hk⟩ := aint_sound' hs hl
      simp [hk, run_sliceBound w k l len _ h0 h1]
  | some oh =>
    obtain ⟨kh, hkh⟩ := aint_sound' hs hh
    cases lo with
    | none =>
      simp only [abound, Option.some.injEq] at hl; subst hl
      simp [hkh, run_sliceBound w kh h cap _ h1 h2]
    | some ol =>
      obtain ⟨k, hk⟩ := aint_sound' hs hl
      simp only [Option.map_some, hk, hkh, Sem.run_bind, Sem.run_pure, Result.andThen_ok, run_sliceBound w kh h cap _ (Int.le_trans h0 h1) h2,
        run_sliceBound w k l h.toNat _ h0 (by omega), Option.isSome_none, Bool.false_eq_true, if_false]

theorem bounds_some {P : Program} {ι : Ren} {w : World} {s : List Value} {a : Act} (hs : SR ι w s a.tmps) {lo : Option Operand} {ho mo : Operand} {len cap : Nat} {l h m : Int} (isS : Bool)
    (hl : abound s 0 lo = some l) (hh : aint? (ev s ho) = some h) (hm : aint? (ev s mo) = some m) (h0 : 0 ≤ l) (h1 : l ≤ h) (h2 : h ≤ m) (h3 : m ≤ cap) :
    (Instr.sliceBounds isS len cap (lo.map a.eval) (some (a.eval ho)) (some (a.eval mo))).run P w = .ok (l.toNat, h.toNat, m.toNat) w := by
  obtain ⟨km, hm⟩ := aint_sound' hs hm
  obtain ⟨kh, hh⟩ := aint_sound' hs hh
  unfold Instr.sliceBounds
  cases lo with
  | none =>
    simp only [abound, Option.some.injEq] at hl; subst hl
    simp only [Option.map_none, hm, hh, Sem.run_bind, Sem.run_pure, Result.andThen_ok, run_sliceBound w km m cap _ (by omega) h3,
      run_sliceBound w kh h m.toNat _ h1 (by omega)]
    rfl
  | some ol =>
    obtain ⟨k, hk⟩ := aint_sound' hs hl
    simp only [Option.map_some, hk, hm, hh, Sem.run_bind, Sem.run_pure, Result.andThen_ok, run_sliceBound w km m cap _ (by omega) h3,
      run_sliceBound w kh h m.toNat _ (by omega) (by omega), run_sliceBound w k l h.toNat _ h0 (by omega), Option.isSome_some, if_true]

theorem elem_of {P : Program} {t e : TypeId} (h : P.underlying t = some (.slice e)) : P.elem t = e := by simp [Program.elem, h]

theorem add_addr (B o n : Nat) : (⟨B, o, none⟩ : Addr).add n = ⟨B, o + n, none⟩ := by
  unfold Addr.add; split <;> simp_all

theorem run_slice_of {P : Program} {w : World} {t e : TypeId} {A : Option Addr} {len cap k l h m : Nat} {lo hi mx : Option Value} (hd : P.underlying t = some (.slice e)) (hk : ask P (sizeOf e) = some k)
    (hb : (Instr.sliceBounds true len cap lo hi mx).run P w = .ok (l, h, m) w) :
    (Instr.sliceAt t (.slice A len cap) lo hi mx).run P w = .ok (.slice (if m = l then A else A.map (·.add (l * k))) (h - l) (m - l)) w := by
  have he := elem_of hd
  rw [run_sliceAt_slice w t _ _ _ _ (by rw [he]; exact hd), run_slice_any w t A len cap (by rw [he]; exact hd), hb]
  simp only [Result.andThen_ok, he, ask_sizeOf hk w, sliced]

theorem nilSlice {P : Program} {ι : Ren} {w : World} {t e : TypeId} {k : Nat} {lo hi mx : Option Value} (hd : P.underlying t = some (.slice e)) (hk : ask P (sizeOf e) = some k)
    (hb : (Instr.sliceBounds true 0 0 lo hi mx).run P w = .ok ((0 : Int).toNat, (0 : Int).toNat, 0) w) :
    ∃ v', (Instr.sliceAt t (.slice none 0 0) lo hi mx).run P w = .ok v' w ∧ VR ι w (.slice none 0 0) v' :=
  ⟨_, run_slice_of hd hk hb, .nils⟩

theorem sl_cut {ι : Ren} {w : World} {n off k l h m c2 c' : Nat} {A : Option Addr} (hn : ∃ l, ι n = some l)
    (hA : c' = 0 ∨ ∃ B base size, ι n = some (.at B base) ∧ A = some ⟨B, base + off, none⟩ ∧ Row w B size ∧ base + off + c' * k ≤ size)
    (hle : h - l ≤ m - l) (h0 : (c2 = 0 → m - l = 0) ∧ c2 - 1 ≤ m - l) (hm : m ≤ c') :
    VR ι w (.slice (some ⟨n, off + l * k, some k⟩) (h - l) c2) (.slice (if m = l then A else A.map (·.add (l * k))) (h - l) (m - l)) := by
  refine .sl hn hle h0.1 h0.2 ?_
  by_cases e : m - l = 0
  · exact .inl e
  · refine .inr ?_
    rcases hA with hA | ⟨B, base, size, h1, rfl, h3, h4⟩
    · omega
    · refine ⟨B, base, size, h1, ?_, h3, ?_⟩
      · rw [if_neg (by omega)]
        simp only [Option.map_some, add_addr, Nat.add_assoc]
      · have : l * k + (m - l) * k ≤ c' * k := by rw [← Nat.add_mul]; exact Nat.mul_le_mul_right _ (by omega)
        omega

theorem aslice_sound {P : Program} {ι : Ren} {w : World} {s : List Value} {a : Act} (hs : SR ι w s a.tmps) {t : TypeId} {x x' v : Value} {lo hi mx : Option Operand}
    (hx : VR ι w x x') (h : aslice P s t x lo hi mx = some v) :
    ∃ v', (Instr.sliceAt t x' (lo.map a.eval) (hi.map a.eval) (mx.map a.eval)).run P w = .ok v' w ∧ VR ι w v v' := by
  unfold aslice at h
  split at h
  · rename_i b
    cases hx
    split at h
    · rename_i l hh hl hhi
      simp only [Option.ite_none_right_eq_some, Option.some.injEq] at h
      obtain ⟨⟨hu, h0, h1, h2⟩, rfl⟩ := h
      refine ⟨_, ?_, .string _⟩
      rw [run_sliceAt_string w t _ _ _ _ (undString_out hu)]
      unfold Instr.slice
      simp only [Option.map_none, Sem.run_bind, run_underlying (undString_out hu), Result.andThen_ok, Option.isSome_none, Bool.false_eq_true, if_false,
        bounds_none hs false hl hhi h0 h1 h2, Sem.run_pure]
    · cases h
  · cases hx
    split at h
    · rename_i l hh hl hhi
      simp only [Option.ite_none_right_eq_some, Option.some.injEq] at h
      obtain ⟨⟨hu, rfl, rfl⟩, rfl⟩ := h
      obtain ⟨e, k, hd, hk⟩ := sizedS_out hu
      have hb := bounds_none (P := P) (len := 0) (cap := 0) hs true hl hhi (by omega) (by omega) (by omega)
      exact nilSlice hd hk hb
    · rename_i l hh mo hl hhi
      split at h
      · rename_i m ho hm
        simp only [Option.ite_none_right_eq_some, Option.some.injEq] at h
        obtain ⟨⟨hu, rfl, rfl, rfl⟩, rfl⟩ := h
        obtain ⟨e, k, hd, hk⟩ := sizedS_out hu
        have hb := bounds_some (P := P) (len := 0) (cap := 0) hs true hl hhi hm (by omega) (by omega) (by omega) (by omega)
        exact nilSlice hd hk hb
      · cases h
    · cases h
  · rename_i n off k len c
    split at h
    · rename_i e hu
      simp only [Option.ite_none_right_eq_some] at h
      obtain ⟨hk, h⟩ := h
      have hd := ask_underlying hu
      cases hx with
      | sl hn hle hc0 hc1 hA =>
      rename_i c' A
      split at h
      · rename_i l hh hl hhi
        simp only [Option.ite_none_right_eq_some, Option.some.injEq] at h
        obtain ⟨⟨h0, h1, h2⟩, rfl⟩ := h
        have hb := bounds_none (P := P) (len := len) (cap := c') hs true hl hhi h0 h1 (by omega)
        refine ⟨_, run_slice_of hd hk hb, ?_⟩
        rw [show (hh - l).toNat = hh.toNat - l.toNat from by omega]
        refine sl_cut hn hA ?_ ?_ ?_ <;> omega
      · rename_i l hh mo hl hhi
        split at h
        · rename_i m ho hm
          simp only [Option.ite_none_right_eq_some, Option.some.injEq] at h
          obtain ⟨⟨h0, h1, h2, h3⟩, rfl⟩ := h
          have hb := bounds_some (P := P) (len := len) (cap := c') hs true hl hhi hm h0 h1 h2 (by omega)
          refine ⟨_, run_slice_of hd hk hb, ?_⟩
          rw [show (hh - l).toNat = hh.toNat - l.toNat from by omega]
          refine sl_cut hn hA ?_ ?_ ?_
          · omega
          · split <;> omega
          · omega
        · cases h
      · cases h
    · cases h
  · rename_i k fs rows
    split at h
    · rename_i e hu
      simp only [Option.ite_none_right_eq_some] at h
      obtain ⟨hk, h⟩ := h
      have hd := ask_underlying hu
      split at h
      · rename_i l hh hl hhi
        simp only [Option.ite_none_right_eq_some, Option.some.injEq] at h
        obtain ⟨⟨h0, h1, h2⟩, rfl⟩ := h
        obtain ⟨A, c', rfl, hc', hv⟩ := lst_part (l := l.toNat) (h := hh.toNat) hx (by omega) (by omega)
        have hb := bounds_none (P := P) (len := rows.size) (cap := c') hs true hl hhi h0 h1 (by omega)
        exact ⟨_, run_slice_of hd hk hb, hv⟩
      · cases h
    · cases h
  · cases h

end Go.SC
