/- The quiet operations in one function, and its soundness. -/
import Derived.Test.YthhcemhignihlaaDoorScE
namespace Go.SC
open Go

/-- A part of an aggregate. -/
def apartV (P : Program) (t : TypeId) (cs : Array Value) (off : Nat) : Option Value :=
  match ask P (isAgg t) with
  | some true => match ask P (sizeOf t) with
    | some n => some (.agg (cs.extract off (off + n)))
    | none => none
  | some false => cs[off]?
  | none => none

theorem apartV_sound {P : Program} {ι : Ren} {w : World} {t : TypeId} {cs cs' : Array Value} {off : Nat} {v : Value} (hc : VR ι w (.agg cs) (.agg cs')) (h : apartV P t cs off = some v) :
    ∃ v', (part t cs' off).run P w = .ok v' w ∧ VR ι w v v' := by
  cases hc with
  | agg hs hc =>
  unfold apartV at h
  unfold part
  split at h
  · rename_i hagg
    split at h
    · rename_i n hn
      cases h
      simp only [Sem.run_bind, ask_isAgg hagg w, Result.andThen_ok, if_true, ask_sizeOf hn w, Sem.run_pure]
      refine ⟨_, rfl, .agg (by simp [hs]) fun i v v' h1 h2 => ?_⟩
      rw [Array.getElem?_extract] at h1 h2
      split at h1
      · split at h2
        · exact hc _ v v' h1 h2
        · cases h2
      · cases h1
    · cases h
  · rename_i hagg
    have hlt : off < cs.size := (Array.getElem?_eq_some_iff.1 h).1
    have hlt' : off < cs'.size := hs ▸ hlt
    simp only [Sem.run_bind, ask_isAgg hagg w, Result.andThen_ok, Bool.false_eq_true, if_false, Array.getElem?_eq_getElem hlt', Sem.run_pure]
    exact ⟨_, rfl, hc off v _ h (by simp [hlt'])⟩
  · cases h

/-- Byte i of a string. -/
def byteAt (s : ByteArray) (i : Nat) : Int := ((s.data.toList.getD i 0).toNat : Int)

def amin2 : Value → Value → Option Value
  | .int k x, .int k' y => if k = k' then some (.int k (if y < x then y else x)) else none
  | _, _ => none
def amax2 : Value → Value → Option Value
  | .int k x, .int k' y => if k = k' then some (.int k (if y > x then y else x)) else none
  | _, _ => none

def alen (P : Program) (t : TypeId) (v : Value) : Option Value :=
  match ask P (underlying t), v with
  | some .string, .string s => some (.int .i64 s.size)
  | some (.slice _), .slice _ n _ => some (.int .i64 n)
  | some (.slice _), .func (.yield _) _ rows => some (.int .i64 rows.size)
  | some (.array n _), _ => some (.int .i64 n)
  | _, _ => none

/-- What a quiet operation yields. -/
def aval (P : Program) (s : List Value) : Op → Option Value
  | .move x => some (ev s x)
  | .assign x => some (ev s x)
  | .pick c a b => match ev s c with
    | .bool p => some (if p = true then ev s a else ev s b)
    | _ => none
  | .nilCheck x => match ev s x with
    | .pointer (some a) => some (.pointer (some a))
    | .func (.method m) fs cs => some (.func (.method m) fs cs)
    | _ => none
  | .binOp op xt x y _ => abinX P op xt (ev s x) (ev s y)
  | .unOp op _ x => match op, ev s x with
    | .not, .bool b => some (.bool !b)
    | .neg, .int k n => chk k (0 - n)
    | _, _ => none
  | .convert src dst x => match ev s x with
    | .int _ n => match ask P (underlying src), ask P (underlying dst) with
      | some _, some (.int k) => chk k n
      | _, _ => none
    | .string b => match ask P (underlying src), ask P (underlying dst) with
      | some _, some .string => some (.string b)
      | _, _ => none
    | _ => none
  | .makeFunc fn first captured => match fn with
    | .func f => if first.size = 0 then some (.func (.func f) #[] (captured.toList.map (ev s)).toArray) else none
    | _ => none
  | .makeInterface t x => match ask P (underlying t) with
    | some (.interface _) => none
    | some _ => some (.iface t (ev s x))
    | none => none
  | .slice t x lo hi mx => aslice P s t (ev s x) lo hi mx
  | .fieldAddr t x f => match ask P (underlying t), ev s x with
    | some (.struct fs), .pointer (some ⟨n, off, none⟩) => match fs[f]? with
      | some fd => match ask P (sizeOf fd.type) with
        | some k => if k ≠ 0 then some (.pointer (some ⟨n, off + fd.offset, none⟩)) else none
        | none => none
      | none => none
    | some (.struct fs), .func (.method _) _ cs => match fs[f]? with
      | some fd => match ask P (sizeOf fd.type) with
        | some k => if k ≠ 0 ∧ fd.offset ≤ cs.size then some (.func (.method "") #[] (cs.extract fd.offset cs.size)) else none
        | none => none
      | none => none
    | _, _ => none
  | .field t x f => match ask P (underlying t), ev s x with
    | some (.struct fs), .agg cs => match fs[f]? with
      | some fd => apartV P fd.type cs fd.offset
      | none => none
    | _, _ => none
  | .indexAddr t x ix => match ask P (underlying t), ev s x, aint? (ev s ix) with
    | some (.slice e), .slice (some ⟨n, off, some k⟩) len _, some i => match ask P (sizeOf e) with
      | some k' => if k' = k ∧ 0 ≤ i ∧ i < len then some (.pointer (some ⟨n, off + i.toNat * k, none⟩)) else none
      | none => none
    | some (.slice e), .func (.yield k) _ rows, some i => match ask P (sizeOf e) with
      | some k' => if k' = k ∧ 0 ≤ i then match rows[i.toNat]? with
        | some (.agg r) => some (.func (.method "") #[] r)
        | _ => none
        else none
      | none => none
    | some (.array len e), .pointer (some ⟨n, off, none⟩), some i => match ask P (sizeOf e) with
      | some k => if 0 ≤ i ∧ i < len then some (.pointer (some ⟨n, off + i.toNat * k, none⟩)) else none
      | none => none
    | _, _, _ => none
  | .index t x ix => match ask P (underlying t), ev s x, aint? (ev s ix) with
    | some .string, .string b, some i => if 0 ≤ i ∧ i < b.size then some (.int .u8 (byteAt b i.toNat)) else none
    | some (.array len e), .agg cs, some i => match ask P (sizeOf e) with
      | some k => if 0 ≤ i ∧ i < len then apartV P e cs (i.toNat * k) else none
      | none => none
    | _, _, _ => none
  | .extract x i => match ev s x with
    | .tuple vs => vs[i]?
    | _ => none
  | .build t parts => abuild P t (parts.toList.map fun x => (x.1, ev s x.2))
  | .call c => match c.callee, c.args.toList, c.argTypes.toList with
    | .builtin .len, [x], t :: _ => alen P t (ev s x)
    | .builtin .min, [x, y], _ => amin2 (ev s x) (ev s y)
    | .builtin .max, [x, y], _ => amax2 (ev s x) (ev s y)
    | _, _, _ => none
  | _ => none

theorem SR.list {ι : Ren} {w : World} {s : List Value} {a : Act} (hs : SR ι w s a.tmps) (xs : Array Operand) :
    (xs.toList.map (SC.ev s)).toArray.size = (xs.map a.eval).size ∧ ∀ (i : Nat) v v', (xs.toList.map (SC.ev s)).toArray[i]? = some v → (xs.map a.eval)[i]? = some v' → VR ι w v v' := by
  refine ⟨by simp, fun i v v' h1 h2 => ?_⟩
  simp only [List.getElem?_toArray, List.getElem?_map, Array.getElem?_toList, Array.getElem?_map] at h1 h2
  cases hx : xs[i]? with
  | none => rw [hx] at h1; cases h1
  | some x =>
    rw [hx] at h1 h2
    simp only [Option.map_some, Option.some.injEq] at h1 h2
    subst h1; subst h2
    exact hs.ev x

theorem byteAt_eq {b : ByteArray} {i : Nat} (h : i < b.size) : b[i]? = some (b.data.toList.getD i 0) := by
  have h' : i < b.data.size := h
  rw [getElem?_pos b i h, List.getD_eq_getElem?_getD, Array.getElem?_toList, Array.getElem?_eq_getElem h', Option.getD_some]
  rfl

theorem alen_sound {P : Program} {ι : Ren} {w : World} {t ty : TypeId} {ts : List TypeId} {v v' r : Value} (hv : VR ι w v v') (h : alen P t v = some r) :
    (Builtin.len_ (t :: ts).toArray ty #[v']).run P w = .ok r w := by
  unfold alen at h
  split at h
  · rename_i _ s hu
    cases h; cases hv
    simp [Builtin.len_, run_und hu w, goInt]
  · rename_i _ e A n c hu
    cases h
    have hx : ∃ A' c', v' = .slice A' n c' := by
      cases hv with
      | nils => exact ⟨_, _, rfl⟩
      | sl => exact ⟨_, _, rfl⟩
    obtain ⟨A', c', rfl⟩ := hx
    simp [Builtin.len_, run_und hu w, goInt]
  · rename_i _ e k fs rows hu
    cases h
    have hx : ∃ A' c', v' = .slice A' rows.size c' := by
      cases hv with
      | lst0 => exact ⟨_, _, rfl⟩
      | lst => exact ⟨_, _, rfl⟩
    obtain ⟨A', c', rfl⟩ := hx
    simp [Builtin.len_, run_und hu w, goInt]
  · rename_i _ n e hu
    cases h
    simp [Builtin.len_, run_und hu w, goInt]
  · cases h

theorem amin_sound {P : Program} {ι : Ren} {w : World} {ty : TypeId} {ts : Array TypeId} {x y x' y' r : Value} (hx : VR ι w x x') (hy : VR ι w y y') (h : amin2 x y = some r) :
    (Builtin.min_ ts ty #[x', y']).run P w = .ok r w ∧ VR ι w r r := by
  unfold amin2 at h
  split at h
  · simp only [Option.ite_none_right_eq_some, Option.some.injEq] at h
    obtain ⟨rfl, rfl⟩ := h
    cases hx; cases hy
    exact ⟨by simp [Builtin.min_, Builtin.min2], .int _ _⟩
  · cases h
theorem amax_sound {P : Program} {ι : Ren} {w : World} {ty : TypeId} {ts : Array TypeId} {x y x' y' r : Value} (hx : VR ι w x x') (hy : VR ι w y y') (h : amax2 x y = some r) :
    (Builtin.max_ ts ty #[x', y']).run P w = .ok r w ∧ VR ι w r r := by
  unfold amax2 at h
  split at h
  · simp only [Option.ite_none_right_eq_some, Option.some.injEq] at h
    obtain ⟨rfl, rfl⟩ := h
    cases hx; cases hy
    exact ⟨by simp [Builtin.max_, Builtin.max2], .int _ _⟩
  · cases h

theorem ev_ptr {ι : Ren} {w : World} {n off : Nat} {v' : Value} (h : VR ι w (.pointer (some ⟨n, off, none⟩)) v') : ∃ B base, ι n = some (.at B base) ∧ v' = .pointer (some ⟨B, base + off, none⟩) := by
  cases h with
  | ptr h => exact ⟨_, _, h, rfl⟩

theorem ev_vp {ι : Ren} {w : World} {m : String} {fs cells : Array Value} {v' : Value} (h : VR ι w (.func (.method m) fs cells) v') : m = "" ∧ fs = #[] ∧ ∃ (B base : Nat) (cs : Array Value) (e : TypeId) (fr : Nat × Nat), v' = .pointer (some ⟨B, base, none⟩) ∧ ι.fz B ∧ w.heap[B]? = some (.cells cs e fr) ∧
    base + cells.size ≤ cs.size ∧ ∀ (j : Nat) v v', cells[j]? = some v → cs[base + j]? = some v' → VR ι w v v' := by
  cases h with
  | vp h1 h2 h3 h4 => exact ⟨rfl, rfl, _, _, _, _, _, rfl, h1, h2, h3, h4⟩

theorem aval_sound {P : Program} {ι : Ren} {w : World} {s : List Value} {a : Act} (hs : SR ι w s a.tmps) {o : Oper} {v : Value} (h : aval P s o.op = some v) :
    ∃ v', (execOp a.eval o).run P w = .ok (.value v') w ∧ VR ι w v v' := by
  obtain ⟨dst, op, type, pos, after, guard⟩ := o
  simp only at h
  unfold execOp
  cases op <;> simp only [aval] at h <;> try (cases h; done)
  case move x => cases h; exact ⟨_, rfl, hs.ev x⟩
  case assign x => cases h; exact ⟨_, rfl, hs.ev x⟩
  case pick c x y =>
    have hc := hs.ev c
    split at h
    · rename_i p hp
      rw [hp] at hc
      cases h
      generalize hcv : a.eval c = cv at hc
      cases hc
      simp only [Sem.run_bind, hcv, asBool, Sem.run_pure, Result.andThen_ok]
      refine ⟨_, rfl, ?_⟩
      by_cases hp' : p = true
      · rw [if_pos hp', if_pos hp']; exact hs.ev x
      · rw [if_neg hp', if_neg hp']; exact hs.ev y
    · cases h
  case nilCheck x =>
    have hx := hs.ev x
    split at h
    · rename_i p hp
      rw [hp] at hx
      cases h
      generalize hxv : a.eval x = xv at hx
      simp only [hxv]
      cases hx with
      | ptr h => exact ⟨_, rfl, .ptr h⟩
    · rename_i m fs cs hp
      rw [hp] at hx
      cases h
      generalize hxv : a.eval x = xv at hx
      simp only [hxv]
      obtain ⟨_, _, B, base, cs', e, fr, rfl, _⟩ := ev_vp hx
      exact ⟨_, rfl, hx⟩
    · cases h
  case binOp op xt x y yt =>
    obtain ⟨hr, hp⟩ := abin_sound (P := P) (w := w) x y h (hs.ev x) (hs.ev y)
    exact ⟨v, by simp only [Sem.run_bind, Sem.run_pure] at hr ⊢; rw [hr]; rfl, VR.plain hp⟩
  case unOp op xt x =>
    have hx := hs.ev x
    split at h
    · rename_i b hb
      rw [hb] at hx
      cases h
      generalize hxv : a.eval x = xv at hx
      cases hx
      simp only [hxv]
      exact ⟨_, by simp [Op.unary], .bool _⟩
    · rename_i k n hb
      rw [hb] at hx
      generalize hxv : a.eval x = xv at hx
      cases hx
      simp only [hxv]
      rw [chk_sound h]
      exact ⟨_, by simp [Op.unary, Op.intArith], .int _ _⟩
    · cases h
  case convert src dst x =>
    have hx := hs.ev x
    split at h
    · rename_i k n hb
      rw [hb] at hx
      split at h
      · rename_i ds kd hsrc hdst
        generalize hxv : a.eval x = xv at hx
        cases hx
        simp only [hxv]
        rw [chk_sound h]
        refine ⟨_, ?_, .int _ _⟩
        simp only [convert, Sem.run_bind, run_und hsrc w, run_und hdst w, Result.andThen_ok, Conv.intToInt, Sem.run_pure]
      · cases h
    · rename_i b hb
      rw [hb] at hx
      split at h
      · rename_i ds hsrc hdst
        cases h
        generalize hxv : a.eval x = xv at hx
        cases hx
        simp only [hxv]
        refine ⟨_, ?_, .string _⟩
        simp only [convert, Sem.run_bind, run_und hsrc w, run_und hdst w, Result.andThen_ok, Sem.run_pure]
      · cases h
    · cases h
  case makeFunc fn first captured =>
    split at h
    · rename_i f
      simp only [Option.ite_none_right_eq_some, Option.some.injEq] at h
      obtain ⟨hf, rfl⟩ := h
      have hfe : first = #[] := Array.eq_empty_of_size_eq_zero hf
      subst hfe
      obtain ⟨h1, h2⟩ := hs.list captured
      exact ⟨_, by simp [Instr.makeFunc], .func h1 h2⟩
    · cases h
  case makeInterface t x =>
    split at h
    · cases h
    · rename_i d hne hd
      cases h
      refine ⟨.iface t (a.eval x), ?_, .iface (hs.ev x)⟩
      simp only [Instr.makeInterface, Sem.run_bind, run_und hd w, Result.andThen_ok]
      cases d <;> first | rfl | exact absurd rfl (hne _)
    · cases h
  case slice t x lo hi mx =>
    obtain ⟨v', h1, h2⟩ := aslice_sound (P := P) hs (hs.ev x) h
    exact ⟨v', by simp only [Sem.run_bind, h1, Result.andThen_ok, Sem.run_pure], h2⟩
  case fieldAddr t x f =>
    have hx := hs.ev x
    split at h
    · rename_i fs n off hu hp
      rw [hp] at hx
      split at h
      · rename_i fd hfd
        split at h
        · rename_i k hk
          simp only [Option.ite_none_right_eq_some, Option.some.injEq] at h
          obtain ⟨hk0, rfl⟩ := h
          obtain ⟨B, base, hn, hxv⟩ := ev_ptr hx
          refine ⟨.pointer (some ⟨B, base + (off + fd.offset), none⟩), ?_, .ptr hn⟩
          simp only [Instr.fieldAt, Sem.run_bind, run_und hu w, Result.andThen_ok, hfd, hxv, Instr.sureAddr, Sem.run_pure, fieldPlace, ask_sizeOf hk w, if_neg hk0, add_addr, Nat.add_assoc]
        · cases h
      · cases h
    · rename_i fs m fst cs hu hp
      rw [hp] at hx
      split at h
      · rename_i fd hfd
        split at h
        · rename_i k hk
          simp only [Option.ite_none_right_eq_some, Option.some.injEq] at h
          obtain ⟨⟨hk0, hle⟩, rfl⟩ := h
          obtain ⟨rfl, _, B, base, cs', e, fr, hxv, h1, h2, h3, h4⟩ := ev_vp hx
          refine ⟨.pointer (some ⟨B, base + fd.offset, none⟩), ?_, .vp h1 h2 (by simp; omega) fun j v v' g1 g2 => h4 (fd.offset + j) v v' ?_ (by rw [← Nat.add_assoc]; exact g2)⟩
          · simp only [Instr.fieldAt, Sem.run_bind, run_und hu w, Result.andThen_ok, hfd, hxv, Instr.sureAddr, Sem.run_pure, fieldPlace, ask_sizeOf hk w, if_neg hk0, add_addr, Nat.add_assoc]
          · rw [Array.getElem?_extract] at g1
            split at g1
            · exact g1
            · cases g1
        · cases h
      · cases h
    · cases h
  case field t x f =>
    have hx := hs.ev x
    split at h
    · rename_i fs cs hu hp
      rw [hp] at hx
      split at h
      · rename_i fd hfd
        obtain ⟨cs', hxv⟩ := hx.aggOut
        rw [hxv] at hx
        obtain ⟨v', h1, h2⟩ := apartV_sound (P := P) hx h
        refine ⟨v', ?_, h2⟩
        simp only [Instr.field, Sem.run_bind, run_und hu w, Result.andThen_ok, hfd, hxv, asAgg, Sem.run_pure, h1]
      · cases h
    · cases h
  case indexAddr t x ix =>
    have hx := hs.ev x
    split at h
    · rename_i e n off k len c i hu hp hi
      rw [hp] at hx
      obtain ⟨ki, hi⟩ := aint_sound' hs hi
      split at h
      · rename_i k' hk
        simp only [Option.ite_none_right_eq_some, Option.some.injEq] at h
        obtain ⟨⟨rfl, h0, h1⟩, rfl⟩ := h
        generalize hxv : a.eval x = xv at hx
        cases hx with
        | sl hn hle hc0 hc1 hA =>
          rcases hA with hA | ⟨B, base, size, hb, rfl, _, _⟩
          · omega
          · refine ⟨.pointer (some ⟨B, base + (off + i.toNat * k'), none⟩), ?_, .ptr hb⟩
            simp only [Instr.indexAt, Sem.run_bind, hxv, hi, asIntOf, run_und hu w, Result.andThen_ok, Sem.run_pure]
            simp [h0, h1, ask_sizeOf hk w, add_addr, Nat.add_assoc]
      · cases h
    · rename_i e k fs rows i hu hp hi
      rw [hp] at hx
      obtain ⟨ki, hi⟩ := aint_sound' hs hi
      split at h
      · rename_i k' hk
        simp only [Option.ite_none_right_eq_some] at h
        obtain ⟨⟨rfl, h0⟩, h⟩ := h
        split at h
        · rename_i r hr
          cases h
          generalize hxv : a.eval x = xv at hx
          cases hx with
          | lst0 => simp at hr
          | lst hfz hB hl hsz hrr hc =>
            rename_i B base c' cs e1 fr
            have hlt : i.toNat < rows.size := (Array.getElem?_eq_some_iff.1 hr).1
            obtain ⟨r', he, hrs⟩ := hrr _ _ hr
            cases he
            have hm : i.toNat * k' + k' ≤ c' * k' := by
              have : i.toNat * k' + k' = (i.toNat + 1) * k' := (Nat.succ_mul _ _).symm
              rw [this]; exact Nat.mul_le_mul_right _ (by omega)
            refine ⟨.pointer (some ⟨B, base + i.toNat * k', none⟩), ?_, .vp hfz hB (by omega) fun j v v' g1 g2 => hc _ j r v v' hr g1 g2⟩
            simp only [Instr.indexAt, Sem.run_bind, hxv, hi, asIntOf, run_und hu w, Result.andThen_ok, Sem.run_pure]
            have h1 : i < rows.size := by omega
            simp [h0, h1, ask_sizeOf hk w, add_addr]
        · cases h
      · cases h
    · rename_i len e n off i hu hp hi
      rw [hp] at hx
      obtain ⟨ki, hi⟩ := aint_sound' hs hi
      split at h
      · rename_i k hk
        simp only [Option.ite_none_right_eq_some, Option.some.injEq] at h
        obtain ⟨⟨h0, h1⟩, rfl⟩ := h
        obtain ⟨B, base, hn, hxv⟩ := ev_ptr hx
        refine ⟨.pointer (some ⟨B, base + (off + i.toNat * k), none⟩), ?_, .ptr hn⟩
        simp only [Instr.indexAt, Sem.run_bind, hxv, hi, asIntOf, run_und hu w, Result.andThen_ok, Sem.run_pure, Instr.sureAddr]
        simp [h0, h1, ask_sizeOf hk w, add_addr, Nat.add_assoc]
      · cases h
    · cases h
  case index t x ix =>
    have hx := hs.ev x
    split at h
    · rename_i b i hu hp hi
      rw [hp] at hx
      obtain ⟨ki, hi⟩ := aint_sound' hs hi
      simp only [Option.ite_none_right_eq_some, Option.some.injEq] at h
      obtain ⟨⟨h0, h1⟩, rfl⟩ := h
      generalize hxv : a.eval x = xv at hx
      cases hx
      refine ⟨_, ?_, .int _ _⟩
      simp only [Instr.index, Sem.run_bind, hxv, hi, asIntOf, run_und hu w, Result.andThen_ok, Sem.run_pure]
      rw [if_pos h0, byteAt_eq (by omega)]
      rfl
    · rename_i len e cs i hu hp hi
      rw [hp] at hx
      obtain ⟨ki, hi⟩ := aint_sound' hs hi
      split at h
      · rename_i k hk
        simp only [Option.ite_none_right_eq_some] at h
        obtain ⟨⟨h0, h1⟩, h⟩ := h
        obtain ⟨cs', hxv⟩ := hx.aggOut
        rw [hxv] at hx
        obtain ⟨v', h2, h3⟩ := apartV_sound (P := P) hx h
        refine ⟨v', ?_, h3⟩
        simp only [Instr.index, Sem.run_bind, hxv, hi, asIntOf, run_und hu w, Result.andThen_ok, Sem.run_pure]
        simp [h0, h1, ask_sizeOf hk w, h2]
      · cases h
    · cases h
  case extract x i =>
    have hx := hs.ev x
    split at h
    · rename_i vs hp
      rw [hp] at hx
      generalize hxv : a.eval x = xv at hx
      cases hx with
      | tuple hsz ht =>
        rename_i ys
        have hlt : i < vs.size := (Array.getElem?_eq_some_iff.1 h).1
        have hlt' : i < ys.size := hsz ▸ hlt
        refine ⟨ys[i], ?_, ht i v _ h (by simp [hlt'])⟩
        simp [Instr.extract, hxv, hlt']
    · cases h
  case build t parts =>
    obtain ⟨v', h1, h2⟩ := abuild_sound (P := P) hs parts h
    exact ⟨v', by simp only [Sem.run_bind, h1, Result.andThen_ok, Sem.run_pure], h2⟩
  case call c =>
    obtain ⟨callee, args, ts⟩ := c
    simp only at h
    split at h
    · rename_i _ x t rest hx ht
      obtain rfl : args = #[x] := by cases args; simp_all
      obtain rfl : ts = (t :: rest).toArray := by cases ts; simp_all
      have := alen_sound (P := P) (ty := type) (ts := rest) (hs.ev x) h
      refine ⟨v, ?_, ?_⟩
      · simp only [resolve, invoke, builtin, Sem.run_bind, Sem.run_pure, Result.andThen_ok, List.map_toArray, List.map_cons, List.map_nil, this]
      · unfold alen at h
        split at h <;> first | (cases h; done) | (cases h; exact .int _ _)
    · rename_i _ x y hx
      obtain rfl : args = #[x, y] := by cases args; simp_all
      obtain ⟨h1, h2⟩ := amin_sound (P := P) (ty := type) (ts := ts) (hs.ev x) (hs.ev y) h
      exact ⟨v, by simp only [resolve, invoke, builtin, Sem.run_bind, Sem.run_pure, Result.andThen_ok, List.map_toArray, List.map_cons, List.map_nil, h1], h2⟩
    · rename_i _ x y hx
      obtain rfl : args = #[x, y] := by cases args; simp_all
      obtain ⟨h1, h2⟩ := amax_sound (P := P) (ty := type) (ts := ts) (hs.ev x) (hs.ev y) h
      exact ⟨v, by simp only [resolve, invoke, builtin, Sem.run_bind, Sem.run_pure, Result.andThen_ok, List.map_toArray, List.map_cons, List.map_nil, h1], h2⟩
    · cases h

end Go.SC
