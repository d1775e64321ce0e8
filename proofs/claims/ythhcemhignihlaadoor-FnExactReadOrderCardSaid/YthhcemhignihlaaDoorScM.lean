/- Operations that ask nothing of their order; blocks set aside. -/
import Derived.Test.YthhcemhignihlaaDoorScR
set_option linter.unusedSimpArgs false
set_option linter.unusedVariables false
namespace Go.SC
open Go

/-- Operations that change memory or call. -/
def isEff : Op → Bool
  | .store .. => true
  | .call c => match c.callee with
    | .builtin .append => true
    | .builtin _ => false
    | _ => true
  | _ => false
def readsHeap : Op → Bool
  | .load .. => true
  | .convert .. => true
  | _ => false

def addB (H : AH) (m : Nat) : Option (List Value) → AH
  | none => H
  | some c => upd H m (some ⟨c, true⟩)

/-- What a quiet operation yields, and the block it makes under name m. -/
def aq (P : Program) (s : List Value) (H : AH) (m : Nat) : Op → Option (Value × Option (List Value))
  | .load t x => match ev s x with
    | .pointer (some ⟨n, off, none⟩) => match H n with
      | some b => (aload P t b off).map (·, none)
      | none => none
    | .func (.method _) _ cs => (aload P t ⟨cs.toList, false⟩ 0).map (·, none)
    | _ => none
  | .convert src dst x => (aconv P H src dst (ev s x)).map (·, none)
  | .alloc t => match ask P (zeroValue t) with
    | some z => if (cellsL z).all plainV = true then some (.pointer (some ⟨m, 0, none⟩), some (cellsL z)) else none
    | none => none
  | .box _ x => if isUnk (ev s x) = false then some (.pointer (some ⟨m, 0, none⟩), some (cellsL (ev s x))) else none
  | .buildSlice t len parts => (abuildSlice P t len (parts.toList.map fun x => (x.1, ev s x.2))).map fun r => (.slice (some ⟨m, 0, some r.1⟩) len (len + 1), some r.2)
  | .makeSlice t l c => (amake P t (ev s l) (ev s c)).map fun r => (.slice (some ⟨m, 0, some r.1⟩) r.2.2.1 (r.2.2.2 + 1), some r.2.1)
  | op => (aval P s op).map (·, none)

theorem acellsOf_in {ι : Ren} {w : World} {Hf Hc : AH} (hH : ∀ n l, ι n = some l → Hc n = Hf n) {k : Nat} {x x' : Value} (hx : VR ι w x x') {r : Nat × List Value} (h : acellsOf Hf k x = some r) : acellsOf Hc k x = some r := by
  unfold acellsOf at h ⊢
  split at h
  · exact h
  · rename_i n off k' len c
    cases hx with
    | sl hn => obtain ⟨l, hl⟩ := hn; simp only [hH n l hl]; exact h
  · exact h
  · exact h
  · cases h

theorem aq_run {P : Program} (hP : POk P) {A : Nat → Prop} {ι : Ren} {s : List Value} {Hc Hf : AH} {Bd : Nat} {a : Act} {w : World} (hr : Rel A ι Hc Bd w) (hs : SR ι w s a.tmps) (hH : ∀ n l, ι n = some l → Hc n = Hf n)
    {m : Nat} (hm : ι m = none) (hmb : m < Bd) {o : Oper} {v : Value} {blk : Option (List Value)} (h : aq P s Hf m o.op = some (v, blk)) :
    ∃ v' ι' w', (execOp a.eval o).run P w = .ok (.value v') w' ∧ Rel A ι' (addB Hc m blk) Bd w' ∧ VR ι' w' v v' ∧ Keep A ι w ι' w' ∧ (∀ n, n ≠ m → ι' n = ι n) ∧ (blk = none → ι' = ι) := by
  obtain ⟨dst, op, type, pos, after, guard⟩ := o
  simp only at h
  have hval : ∀ {u}, aval P s op = some u → v = u → blk = none → ∃ v' ι' w', (execOp a.eval ⟨dst, op, type, pos, after, guard⟩).run P w = .ok (.value v') w' ∧ Rel A ι' (addB Hc m blk) Bd w' ∧ VR ι' w' v v' ∧ Keep A ι w ι' w' ∧ (∀ n, n ≠ m → ι' n = ι n) ∧ (blk = none → ι' = ι) := by
    rintro u hu rfl rfl
    obtain ⟨v', h1, h2⟩ := aval_sound (P := P) hs (o := ⟨dst, op, type, pos, after, guard⟩) hu
    exact ⟨v', ι, w, h1, hr, h2, Keep.refl A w, fun _ _ => rfl, fun _ => rfl⟩
  unfold aq at h
  split at h
  · rename_i t x
    split at h
    · rename_i n off hx
      split at h
      · rename_i b hb
        obtain ⟨u, hu, he⟩ := Option.map_eq_some_iff.1 h
        cases he
        have hxv := hs.ev x
        rw [hx] at hxv
        obtain ⟨B, base, hι, hxe⟩ := ev_ptr hxv
        obtain ⟨v', h1, h2⟩ := aload_sound (P := P) hr ((hH n _ hι).trans hb) hxv hu
        exact ⟨v', ι, w, by simp only [execOp, Sem.run_bind, h1, Result.andThen_ok, Sem.run_pure], hr, h2, Keep.refl A w, fun _ _ => rfl, fun _ => rfl⟩
      · cases h
    · rename_i m fs cs hx
      obtain ⟨u, hu, he⟩ := Option.map_eq_some_iff.1 h
      cases he
      have hxv := hs.ev x
      rw [hx] at hxv
      obtain ⟨v', h1, h2⟩ := vload_sound (P := P) hxv hu
      exact ⟨v', ι, w, by simp only [execOp, Sem.run_bind, h1, Result.andThen_ok, Sem.run_pure], hr, h2, Keep.refl A w, fun _ _ => rfl, fun _ => rfl⟩
    · cases h
  · rename_i src dst' x
    obtain ⟨u, hu, he⟩ := Option.map_eq_some_iff.1 h
    cases he
    cases hsl : isSl (ev s x) with
    | true =>
      have hu' : astring P Hf src dst' (ev s x) = some v := by
        cases hx : ev s x with
        | slice => rw [hx] at hu; exact hu
        | func f a b =>
          rw [hx] at hsl hu
          cases f <;> simp [isSl] at hsl
          exact hu
        | _ => rw [hx] at hsl; simp [isSl] at hsl
      have hu2 : astring P Hc src dst' (ev s x) = some v := by
        unfold astring at hu' ⊢
        split at hu'
        · rename_i hc
          rw [if_pos hc]
          split at hu'
          · rename_i l xs hxs
            rw [acellsOf_in hH (hs.ev x) hxs]
            exact hu'
          · cases hu'
        · cases hu'
      obtain ⟨h1, h2⟩ := astring_sound (P := P) hr (hs.ev x) (fun s hs => by rw [hs] at hsl; simp [isSl] at hsl) hu2
      exact ⟨v, ι, w, by simp only [execOp, Sem.run_bind, h1, Result.andThen_ok, Sem.run_pure], hr, VR.plain h2, Keep.refl A w, fun _ _ => rfl, fun _ => rfl⟩
    | false =>
      refine hval (u := v) ?_ rfl rfl
      unfold aval
      unfold aconv at hu
      cases hx : ev s x with
      | func f a b => cases f <;> simp only [hx] at hu hsl ⊢ <;> first | exact hu | (simp [isSl] at hsl) | cases hu
      | _ => simp only [hx] at hu hsl ⊢ <;> first | exact hu | (simp [isSl] at hsl) | cases hu
  · rename_i t
    split at h
    · rename_i z hz
      simp only [Option.ite_none_right_eq_some, Option.some.injEq, Prod.mk.injEq] at h
      obtain ⟨hp, rfl, rfl⟩ := h
      obtain ⟨v, w', ι', h1, h2, h3, h4, h5⟩ := alloc_var (P := P) hr hz hp hm hmb
      exact ⟨v, ι', w', by simp only [execOp, Sem.run_bind, h1, Result.andThen_ok, Sem.run_pure], h2, h3, h4, h5, fun h => by cases h⟩
    · cases h
  · rename_i t x
    simp only [Option.ite_none_right_eq_some, Option.some.injEq, Prod.mk.injEq] at h
    obtain ⟨hu, rfl, rfl⟩ := h
    obtain ⟨v, w', ι', h1, h2, h3, h4, h5⟩ := new_var (P := P) (t := t) hr (hs.ev x) hu hm hmb
    exact ⟨v, ι', w', by simp only [execOp, Sem.run_bind, h1, Result.andThen_ok, Sem.run_pure], h2, h3, h4, h5, fun h => by cases h⟩
  · rename_i t len parts
    obtain ⟨⟨k, L⟩, hb, he⟩ := Option.map_eq_some_iff.1 h
    cases he
    obtain ⟨v, w', ι', h1, h2, h3, h4, h5⟩ := abuildSlice_sound (P := P) hr hs parts hm hmb hb
    exact ⟨v, ι', w', by simp only [execOp, Sem.run_bind, h1, Result.andThen_ok, Sem.run_pure], h2, h3, h4, h5, fun h => by cases h⟩
  · rename_i t l c
    obtain ⟨⟨k, L, n, c0⟩, hb, he⟩ := Option.map_eq_some_iff.1 h
    cases he
    obtain ⟨v, w', ι', h1, h2, h3, h4, h5⟩ := amake_sound hP hr (hs.ev l) (hs.ev c) hm hmb hb
    exact ⟨v, ι', w', by simp only [execOp, Sem.run_bind, h1, Result.andThen_ok, Sem.run_pure], h2, h3, h4, h5, fun h => by cases h⟩
  · obtain ⟨u, hu, he⟩ := Option.map_eq_some_iff.1 h
    cases he
    exact hval hu rfl rfl

theorem acellsOf_mono {H H' : AH} (hle : Le H H') {k : Nat} {x : Value} {r : Nat × List Value} (h : acellsOf H k x = some r) : acellsOf H' k x = some r := by
  unfold acellsOf at h ⊢
  split at h
  · exact h
  · rename_i n off k' len c
    split at h
    · rename_i b hb; simp only [hle n b hb]; exact h
    · cases h
  · exact h
  · exact h
  · cases h
theorem aq_mono {P : Program} {s : List Value} {H H' : AH} {m : Nat} {op : Op} {r : Value × Option (List Value)} (hle : Le H H') (h : aq P s H m op = some r) : aq P s H' m op = some r := by
  unfold aq at h ⊢
  split at h
  · split at h
    · split at h
      · rename_i b hb; simp only [hle _ b hb]; exact h
      · cases h
    · exact h
    · cases h
  · rename_i src dst x
    obtain ⟨u, hu, rfl⟩ := Option.map_eq_some_iff.1 h
    have : aconv P H' src dst (ev s x) = some u := by
      unfold aconv at hu ⊢
      split at hu
      · unfold astring at hu ⊢
        split at hu
        · rename_i hc
          rw [if_pos hc]
          split at hu
          · rename_i hxs; rw [acellsOf_mono hle hxs]; exact hu
          · cases hu
        · cases hu
      · unfold astring at hu ⊢
        split at hu
        · rename_i hc
          rw [if_pos hc]
          split at hu
          · rename_i hxs; rw [acellsOf_mono hle hxs]; exact hu
          · cases hu
        · cases hu
      · exact hu
      · exact hu
      · exact hu
    simp only [this]; rfl
  all_goals exact h
theorem aq_noheap {P : Program} {s : List Value} {H H' : AH} {m : Nat} {op : Op} (hn : readsHeap op = false) : aq P s H m op = aq P s H' m op := by
  cases op <;> first | rfl | (simp [readsHeap] at hn)

/-! ### blocks set aside -/
def join (F H : AH) : AH := fun n => match F n with
  | some b => some b
  | none => H n
theorem join_some {F H : AH} {n : Nat} {b : Blk} (h : F n = some b) : join F H n = some b := by simp [join, h]
theorem join_none {F H : AH} {n : Nat} (h : F n = none) : join F H n = H n := by simp [join, h]

def lessA (A : Nat → Prop) (ι : Ren) (F : AH) : Nat → Prop := fun B => A B ∧ ¬ ∃ n b base, F n = some b ∧ ι n = some (.at B base)

theorem frame_in {A : Nat → Prop} {ι : Ren} {F H : AH} {Bd : Nat} {w : World} (hr : Rel A ι (join F H) Bd w) (hd : ∀ n b, F n = some b → H n = none) : Rel (lessA A ι F) ι H Bd w := by
  have hj : ∀ n b, H n = some b → join F H n = some b ∧ F n = none := fun n b hn => by
    cases hf : F n with
    | none => exact ⟨by rw [join_none hf, hn], rfl⟩
    | some c => rw [hd n c hf] at hn; cases hn
  refine ⟨hr.bound, fun n b hn => ?_, fun n m b b' B base B' base' hne h1 h2 => hr.apart n m b b' B base B' base' hne (hj n b h1).1 (hj m b' h2).1, fun B hB => ⟨hr.newA B hB, ?_⟩, fun n b B base h1 => hr.froz n b B base (hj n b h1).1, hr.fzlt, fun n b h1 => hr.glob n b (hj n b h1).1, fun B p hp => ⟨⟨(hr.mp B p hp).1, fun ⟨n, b, base, g1, g2⟩ => by
    rcases hr.blk n b (join_some g1) with ⟨hv, _⟩ | ⟨B1, base1, cs, e, fr, h1, h2, _⟩
    · rw [g2] at hv; cases hv
    · rw [g2] at h1; cases h1
      obtain ⟨es, c, h3, _⟩ := (hr.mp B p hp).2
      rw [h3] at h2; cases h2⟩, (hr.mp B p hp).2⟩⟩
  · obtain ⟨hn1, hn2⟩ := hj n b hn
    rcases hr.blk n b hn1 with h | ⟨B, base, cs, e, fr, h1, h2, h3, h4, h5⟩
    · exact .inl h
    · refine .inr ⟨B, base, cs, e, fr, h1, h2, fun ho => ⟨⟨(h3 ho).1, ?_⟩, (h3 ho).2⟩, fun ho hA => h4 ho hA.1, h5⟩
      rintro ⟨m, b', base', g1, g2⟩
      have hne : n ≠ m := fun e => by subst e; rw [hn2] at g1; cases g1
      exact hr.apart n m b b' B base B base' hne hn1 (join_some g1) ho h1 g2 rfl
  · rintro ⟨m, b', base', g1, g2⟩
    have := hr.lt (join_some g1) g2
    omega

theorem Keep.wide {A A' : Nat → Prop} {ι ι' : Ren} {w w' : World} (h : Keep A' ι w ι' w') (hA : ∀ B, A' B → A B) : Keep A ι w ι' w' :=
  ⟨h.os, h.tape, h.output, h.size, fun B hB hn => h.block B hB fun k => hn (hA B k), h.rows, h.fz, fun B hB => (h.fzA B hB).imp id (hA B)⟩

theorem frame_out {A : Nat → Prop} {ι ι' : Ren} {F H H' : AH} {Bd Bd' : Nat} {w w' : World} (hr : Rel A ι (join F H) Bd w) (hd : ∀ n b, F n = some b → H n = none) (ho : ∀ n b, F n = some b → b.own = true)
    (hr' : Rel (lessA A ι F) ι' H' Bd' w') (hk : Keep (lessA A ι F) ι w ι' w') (hag : Agr Bd ι ι') (hni : NI H H') (hd' : ∀ n b, F n = some b → H' n = none) : Rel A ι' (join F H') Bd' w' := by
  have hx := hag.ext hr hk.fz
  have hF : ∀ n b, F n = some b → n < Bd := fun n b hf => hr.named (join_some hf)
  have hj : ∀ n b, H n = some b → join F H n = some b ∧ F n = none := fun n b hn => by
    cases hf : F n with
    | none => exact ⟨by rw [join_none hf, hn], rfl⟩
    | some c => rw [hd n c hf] at hn; cases hn
  -- the machine's blocks behind F
  have hpart : ∀ n b B base, join F H' n = some b → F n = none → ι' n = some (.at B base) → b.own = true → lessA A ι F B := fun n b B base hn hf hι hown => by
    rw [join_none hf] at hn
    rcases hr'.blk n b hn with ⟨hv, _⟩ | ⟨B1, base1, cs, e, fr, h1, h2, h3, h4, h5⟩
    · rw [hι] at hv; cases hv
    · rw [hι] at h1; cases h1; exact (h3 hown).1
  have himm : ∀ n b, H' n = some b → b.own = false → ∃ b', join F H n = some b' ∧ b'.own = false ∧ ι' n = ι n := fun n b hn hown => by
    obtain ⟨b', h1, h2⟩ := hni n b hn hown
    have h3 := (hj n b' h1).1
    exact ⟨b', h3, h2, hag n (hr.named h3)⟩
  refine ⟨hr'.bound, fun n b hn => ?_, fun n m b b' B base B' base' hne h1 h2 hown i1 i2 => ?_, fun B hB => (hr'.newA B hB).1, fun n b B base h1 hown i1 hz => ?_, hr'.fzlt, fun n b hn hq => ?_, fun B p hp => ⟨(hr'.mp B p hp).1.1, (hr'.mp B p hp).2⟩⟩
  · cases hf : F n with
    | some c =>
      rw [join_some hf] at hn
      cases hn
      have hι := hag n (hF n _ hf)
      rcases hr.blk n b (join_some hf) with ⟨hv, hc⟩ | ⟨B, base, cs, e, fr, h1, h2, h3, h4, h5⟩
      · exact .inl ⟨hι.trans hv, hc⟩
      · have hlt := hr.lt (join_some hf) h1
        refine .inr ⟨B, base, cs, e, fr, hι.trans h1, (hk.block B hlt fun k => k.2 ⟨n, b, base, hf, h1⟩).trans h2, h3, h4, fun i v hv => ?_⟩
        obtain ⟨v', g1, g2⟩ := h5 i v hv
        exact ⟨v', g1, g2.mono hx hk.rows⟩
    | none =>
      rw [join_none hf] at hn
      rcases hr'.blk n b hn with h | ⟨B, base, cs, e, fr, h1, h2, h3, h4, h5⟩
      · exact .inl h
      · refine .inr ⟨B, base, cs, e, fr, h1, h2, fun hown => ⟨(h3 hown).1.1, (h3 hown).2⟩, fun hown hA => ?_, h5⟩
        obtain ⟨b', g1, g2, g3⟩ := himm n b hn hown
        rw [h1] at g3
        rcases hr.blk n b' g1 with ⟨hv, _⟩ | ⟨B1, base1, cs1, e1, fr1, q1, q2, q3, q4, q5⟩
        · rw [hv] at g3; cases g3
        · rw [q1] at g3; cases g3; exact q4 g2 hA
  · cases hf : F n with
    | some c =>
      rw [join_some hf] at h1
      cases h1
      have hιn := hag n (hF n _ hf)
      rw [hιn] at i1
      cases hg : F m with
      | some c' =>
        rw [hag m (hF m _ hg)] at i2
        exact hr.apart n m b c' B base B' base' hne (join_some hf) (join_some hg) hown i1 i2
      | none =>
        intro he
        subst he
        cases hb' : b'.own with
        | true => exact (hpart m b' B base' h2 hg i2 hb').2 ⟨n, b, base, hf, i1⟩
        | false =>
          rw [join_none hg] at h2
          obtain ⟨b2, g1, g2, g3⟩ := himm m b' h2 hb'
          rw [i2] at g3
          exact hr.apart n m b b2 B base B base' hne (join_some hf) g1 hown i1 g3.symm rfl
    | none =>
      cases hg : F m with
      | some c' =>
        rw [hag m (hF m _ hg)] at i2
        intro he
        subst he
        exact (hpart n b B base h1 hf i1 hown).2 ⟨m, c', base', hg, i2⟩
      | none =>
        rw [join_none hf] at h1
        rw [join_none hg] at h2
        exact hr'.apart n m b b' B base B' base' hne h1 h2 hown i1 i2
  · cases hf : F n with
    | some c =>
      rw [join_some hf] at h1
      cases h1
      rw [hag n (hF n _ hf)] at i1
      rcases hk.fzA B hz with h | h
      · exact hr.froz n b B base (join_some hf) hown i1 h
      · exact h.2 ⟨n, b, base, hf, i1⟩
    | none =>
      rw [join_none hf] at h1
      exact hr'.froz n b B base h1 hown i1 hz
  · cases hf : F n with
    | some c =>
      rw [join_some hf] at hn
      cases hn
      rw [ho n _ hf] at hq; cases hq
    | none =>
      rw [join_none hf] at hn
      exact hr'.glob n b hn hq
end Go.SC
