/- Own lists handed to functions that only read: lent for the call, or given away. Results in new memory, named anew. -/
import Derived.Test.YthhcemhignihlaaDoorScS
set_option linter.unusedSimpArgs false
set_option linter.unusedVariables false
namespace Go.SC
open Go

/-- A value that is no list that is never written again, and has none inside. -/
inductive VC : Value → Prop
  | bool (b : Bool) : VC (.bool b)
  | int (k : IntKind) (n : Int) : VC (.int k n)
  | string (s : ByteArray) : VC (.string s)
  | nilp : VC (.pointer none)
  | nils : VC (.slice none 0 0)
  | sl {n off k len c : Nat} : VC (.slice (some ⟨n, off, some k⟩) len c)
  | agg {xs : Array Value} (h : ∀ (i : Nat) v, xs[i]? = some v → VC v) : VC (.agg xs)
  | tuple {xs : Array Value} (h : ∀ (i : Nat) v, xs[i]? = some v → VC v) : VC (.tuple xs)
theorem VR.refz {ι : Ren} {w : World} {v v' : Value} (fz : Nat → Prop) (h : VR ι w v v') (hc : VC v) : VR ⟨ι.m, fz, ι.mp⟩ w v v' := by
  induction h with
  | unk => cases hc
  | bool b => exact .bool b
  | int k n => exact .int k n
  | string s => exact .string s
  | nilp => exact .nilp
  | ptr h => cases hc
  | nils => exact .nils
  | sl h1 h2 h3 h4 h5 => exact .sl h1 h2 h3 h4 h5
  | agg hs _ ih => cases hc with | agg hc => exact .agg hs fun i v v' h1 h2 => ih i v v' h1 h2 (hc i v h1)
  | tuple hs _ ih => cases hc with | tuple hc => exact .tuple hs fun i v v' h1 h2 => ih i v v' h1 h2 (hc i v h1)
  | func hs _ ih => cases hc
  | nilf => cases hc
  | nili => cases hc
  | iface _ ih => cases hc
  | lst0 => cases hc
  | lst => cases hc
  | vp => cases hc
  | mp => cases hc

/-- Memory without its own blocks; old memory with what is new in another one. -/
noncomputable def mns (H : AH) : AH := fun n => open Classical in if ∃ b, H n = some b ∧ b.own = true then none else H n
def mrg (H H' : AH) (Bd : Nat) : AH := fun n => if n < Bd then H n else H' n
theorem mns_le (H : AH) : Le (mns H) H := fun n b h => by
  unfold mns at h
  split at h
  · cases h
  · exact h
theorem mns_not {H : AH} {n : Nat} {b : Blk} (h : mns H n = some b) : b.own = false ∧ H n = some b := by
  have h2 := mns_le H n b h
  unfold mns at h
  split at h
  · cases h
  · rename_i hn
    refine ⟨?_, h2⟩
    cases ho : b.own with
    | false => rfl
    | true => exact absurd ⟨b, h2, ho⟩ hn

theorem SR.pubC {A : Nat → Prop} {ι : Ren} {H : AH} {Bd : Nat} {w : World} (hr : Rel A ι H Bd w) {S : Nat → Prop} {xs ys : List Value} {t : Array Value} (hp : PubC H S xs ys) (h : SR ι w xs t) : SR (frz ι H S) w ys t := by
  obtain ⟨h1, h2⟩ := PubC.get _ _ hp
  refine ⟨by rw [← h1]; exact h.1, fun i v v' g1 g2 => ?_⟩
  have hi := (List.getElem?_eq_some_iff.1 g1).1
  have g3 : xs[i]? = some (xs[i]'(by omega)) := List.getElem?_eq_getElem (by omega)
  exact VR.pub hr (h2 i _ v g3 g1) (h.2 i _ v' g3 g2)

/-- Own lists lent for one call. -/
theorem lend {P : Program} {f : FuncId} {args args' : List Value} {H : AH} {Bd : Nat} {K : Value → AH → Nat → Prop} (hp : PubC H (fun n => ∃ b, H n = some b ∧ b.own = true) args args')
    (h : SCalls P f args' (mns H) Bd fun r H' B' => VC r ∧ (∀ n, n < Bd → H' n = mns H n) ∧ (∀ n b, Bd ≤ n → H' n = some b → ∀ v ∈ b.cells, VC v) ∧ K r (mrg H H' Bd) B') : SCalls P f args H Bd K := by
  refine ⟨h.1, fun A ι vs w hr hs => ?_⟩
  have hr1 : Rel A (frz ι H fun n => ∃ b, H n = some b ∧ b.own = true) (mns H) Bd w := hr.pub (mns_le H) fun n b hn ⟨b', h1, h2⟩ => by
    obtain ⟨g1, g2⟩ := mns_not hn
    rw [h1] at g2; cases g2; rw [h2] at g1; cases g1
  refine (h.2 A _ vs w hr1 (SR.pubC hr hp hs)).mono fun e w' ⟨v, r, ι', H', Bd', he, ⟨hvc, hold, hnew, hK⟩, hB, hrel, hvr, hkp, hag, hni⟩ => ?_
  have hb := hr.hb
  have hιn : ∀ n, n < Bd → ι'.m n = ι.m n := fun n hn => hag n hn
  have hfz : ∀ B, ι.fz B → ι'.fz B := fun B hB => hkp.fz.1 B (.inl hB)
  have hxt : Ext ι ⟨ι'.m, ι.fz, ι'.mp⟩ := ⟨fun n l hn => by
    have : n < Bd := by
      rcases Nat.lt_or_ge n Bd with h | h
      · exact h
      · rw [hr.bound n h] at hn; cases hn
    show ι'.m n = _
    rw [hιn n this]; exact hn, fun _ h => h, hkp.fz.2⟩
  have hfro : Fro ι w w' := ⟨hkp.rows.rows, fun B cs e fr hB hx => hkp.rows.fz B cs e fr (.inl hB) hx⟩
  have hnew2 : ∀ n b, Bd ≤ n → H' n = some b → b.own = true := fun n b hn hx => by
    cases ho : b.own with
    | true => rfl
    | false =>
      obtain ⟨b', g1, g2⟩ := hni n b hx ho
      have := mns_le H n b' g1
      rw [hb.fresh n hn] at this; cases this
  have hown : ∀ n b B base, H n = some b → b.own = true → ι.m n = some (.at B base) → ι'.fz B := fun n b B base h1 h2 h3 => hkp.fz.1 B (.inr ⟨n, b, base, ⟨b, h1, h2⟩, h1, h2, h3⟩)
  have hsame : ∀ n b, H n = some b → ∀ B base, ι.m n = some (.at B base) → ∀ cs e fr, w.heap[B]? = some (.cells cs e fr) → w'.heap[B]? = some (.cells cs e fr) := fun n b h1 B base h3 cs e fr hx => by
    cases ho : b.own with
    | true => exact hkp.rows.fz B cs e fr (.inr ⟨n, b, base, ⟨b, h1, ho⟩, h1, ho, h3⟩) hx
    | false =>
      rcases hr.blk n b h1 with ⟨hv, _⟩ | ⟨B', base', cs, e1, fr, g1, g2, g3, g4, _⟩
      · rw [show ι.m n = ι n from rfl, hv] at h3; cases h3
      · rw [show ι.m n = ι n from rfl, g1] at h3; cases h3
        rw [hkp.block B (Array.getElem?_eq_some_iff.1 hx).1 (g4 ho)]; exact hx
  refine ⟨v, r, ⟨ι'.m, ι.fz, ι'.mp⟩, mrg H H' Bd, Bd', he, hK, hB, ?_, hvr.refz _ hvc, ⟨hkp.os, hkp.tape, hkp.output, hkp.size, hkp.block, hfro, ⟨fun _ h => h, hkp.fz.2⟩, fun _ h => .inl h⟩, fun n hn => hιn n hn, fun n b hn ho => ?_⟩
  · refine ⟨hrel.bound, fun n b hn => ?_, fun n m b b' B base B' base' hne h1 h2 ho i1 i2 => ?_, hrel.newA, fun n b B base h1 ho i1 hz => ?_, fun B hB => Nat.lt_of_lt_of_le (hr.fzlt B hB) hkp.size, fun n b hn hq => ?_, hrel.mp⟩
    · unfold mrg at hn
      split at hn
      · rename_i hlt
        rcases hr.blk n b hn with ⟨hv, hc⟩ | ⟨B, base, cs, e1, fr, g1, g2, g3, g4, g5⟩
        · exact .inl ⟨(hιn n hlt).trans hv, hc⟩
        · refine .inr ⟨B, base, cs, e1, fr, (hιn n hlt).trans g1, hsame n b hn B base g1 _ _ _ g2, g3, g4, fun i v hv => ?_⟩
          obtain ⟨v', k1, k2⟩ := g5 i v hv
          exact ⟨v', k1, k2.mono hxt hfro⟩
      · rename_i hge
        rcases hrel.blk n b hn with ⟨hv, hc⟩ | ⟨B, base, cs, e1, fr, g1, g2, g3, g4, g5⟩
        · exact .inl ⟨hv, hc⟩
        · refine .inr ⟨B, base, cs, e1, fr, g1, g2, g3, g4, fun i v hv => ?_⟩
          obtain ⟨v', k1, k2⟩ := g5 i v hv
          exact ⟨v', k1, k2.refz _ (hnew n b (by omega) hn v (List.mem_of_getElem? hv))⟩
    · unfold mrg at h1 h2
      split at h1
      · rename_i hn
        have j1 : ι.m n = some (.at B base) := (hιn n hn).symm.trans i1
        split at h2
        · rename_i hm
          exact hr.apart n m b b' B base B' base' hne h1 h2 ho j1 ((hιn m hm).symm.trans i2)
        · rename_i hm
          intro e; subst e
          exact hrel.froz m b' B base' h2 (hnew2 m b' (by omega) h2) i2 (hown n b B base h1 ho j1)
      · rename_i hn
        split at h2
        · rename_i hm
          have j2 : ι.m m = some (.at B' base') := (hιn m hm).symm.trans i2
          cases ho2 : b'.own with
          | true =>
            intro e; subst e
            exact hrel.froz n b B base h1 ho i1 (hown m b' B base' h2 ho2 j2)
          | false =>
            refine hrel.apart n m b b' B base B' base' hne h1 ?_ ho i1 i2
            rw [hold m hm]
            unfold mns
            rw [if_neg]
            · exact h2
            · rintro ⟨c, c1, c2⟩
              rw [h2] at c1; cases c1; rw [ho2] at c2; cases c2
        · exact hrel.apart n m b b' B base B' base' hne h1 h2 ho i1 i2
    · unfold mrg at h1
      split at h1
      · rename_i hn
        exact hr.froz n b B base h1 ho ((hιn n hn).symm.trans i1) hz
      · exact hrel.froz n b B base h1 ho i1 (hfz B hz)
    · unfold mrg at hn
      split at hn
      · rename_i hlt; exact ⟨(hιn n hlt).trans (hr.glob n b hn hq).1, (hr.glob n b hn hq).2.mono hfro.rows⟩
      · exact hrel.glob n b hn hq
  · unfold mrg at hn
    split at hn
    · exact ⟨b, hn, ho⟩
    · rename_i hge
      have := hnew2 n b (by omega) hn
      rw [ho] at this; cases this

/-- Own lists given away at one call. -/
theorem give {P : Program} {f : FuncId} {args args' : List Value} {H H1 : AH} {Bd : Nat} {K : Value → AH → Nat → Prop} (S : Nat → Prop) (hp : PubC H S args args') (hle : Le H1 H) (hS : ∀ n b, H1 n = some b → ¬ S n)
    (h : SCalls P f args' H1 Bd K) : SCalls P f args H Bd K := by
  refine ⟨h.1, fun A ι vs w hr hs => ?_⟩
  refine (h.2 A _ vs w (hr.pub hle hS) (SR.pubC hr hp hs)).mono fun e w' ⟨v, r, ι', H', Bd', he, hK, hB, hrel, hvr, hkp, hag, hni⟩ => ?_
  refine ⟨v, r, ι', H', Bd', he, hK, hB, hrel, hvr, (Keep.refl A w (ext_frz ι H S).fz (hr.frzA S)).trans hkp, hag, fun n b hn ho => ?_⟩
  obtain ⟨b', g1, g2⟩ := hni n b hn ho
  exact ⟨b', hle n b' g1, g2⟩
/-! ### results in new memory, named anew -/
/-- A value over new names (Bd, Bd + 1, ..) and the same over the old ones; the nil slice gets a block of its own. -/
inductive RN (σ : List (Option Nat)) (Bd : Nat) : Value → Value → Prop
  | same {v : Value} (h : NB Bd v) : RN σ Bd v v
  | sl {i m off k len c : Nat} (h : σ[i]? = some (some m)) : RN σ Bd (.slice (some ⟨Bd + i, off, some k⟩) len (len + 1)) (.slice (some ⟨m, off, some k⟩) len c)
  | nil {i k : Nat} (h : σ[i]? = some none) : RN σ Bd (.slice (some ⟨Bd + i, 0, some k⟩) 0 1) (.slice none 0 0)
  | agg {xs ys : Array Value} (hs : xs.size = ys.size) (h : ∀ (i : Nat) v u, xs[i]? = some v → ys[i]? = some u → RN σ Bd v u) : RN σ Bd (.agg xs) (.agg ys)
  | tuple {xs ys : Array Value} (hs : xs.size = ys.size) (h : ∀ (i : Nat) v u, xs[i]? = some v → ys[i]? = some u → RN σ Bd v u) : RN σ Bd (.tuple xs) (.tuple ys)
/-- Memory with these own blocks behind Bd. -/
def putN (H : AH) (Bd : Nat) (L : List (List Value)) : AH := fun n => if n < Bd then H n else (L[n - Bd]?).map fun c => ⟨c, true⟩
structure Anew (H : AH) (Bd : Nat) (r : Value) (H' : AH) (σ : List (Option Nat)) (L : List (List Value)) (r0 : Value) : Prop where
  len : σ.length = L.length
  le : Le H H'
  val : RN σ Bd r0 r
  zero : ∀ i : Nat, σ[i]? = some none → L[i]? = some []
  blk : ∀ (i m : Nat), σ[i]? = some (some m) → Bd ≤ m ∧ ∃ b c, H' m = some b ∧ b.own = true ∧ L[i]? = some c ∧ c.length = b.cells.length ∧ ∀ (j : Nat) v u, c[j]? = some v → b.cells[j]? = some u → RN σ Bd v u
  nodup : ∀ (i j m : Nat), σ[i]? = some (some m) → σ[j]? = some (some m) → i = j
def rnR (ι : Ren) (Bd : Nat) (σ : List (Option Nat)) : Ren := ⟨fun n => if n < Bd then ι n else match σ[n - Bd]? with
  | some (some m) => ι m
  | some none => some .void
  | none => none, ι.fz, ι.mp⟩
theorem rnR_lt {ι : Ren} {Bd : Nat} {σ : List (Option Nat)} {n : Nat} (h : n < Bd) : rnR ι Bd σ n = ι n := by simp [rnR, h]
theorem rnR_add {ι : Ren} {Bd : Nat} {σ : List (Option Nat)} {i m : Nat} (h : σ[i]? = some (some m)) : rnR ι Bd σ (Bd + i) = ι m := by
  show (if Bd + i < Bd then ι (Bd + i) else _) = _
  rw [if_neg (by omega), Nat.add_sub_cancel_left, h]
theorem rnR_void {ι : Ren} {Bd : Nat} {σ : List (Option Nat)} {i : Nat} (h : σ[i]? = some none) : rnR ι Bd σ (Bd + i) = some .void := by
  show (if Bd + i < Bd then ι (Bd + i) else _) = _
  rw [if_neg (by omega), Nat.add_sub_cancel_left, h]
theorem VR.rn {ι : Ren} {w : World} {Bd : Nat} {σ : List (Option Nat)} {v0 v : Value} (hn : RN σ Bd v0 v) : ∀ {x : Value}, VR ι w v x → VR (rnR ι Bd σ) w v0 x := by
  induction hn with
  | same h =>
    intro x hx
    have hx' : Ext (cutR ι Bd) (rnR ι Bd σ) := by
      refine ⟨fun n l hl => ?_, FzLe.refl _⟩
      simp only [cutR] at hl
      split at hl
      · rename_i hlt; rw [rnR_lt hlt]; exact hl
      · cases hl
    exact (hx.cut h).mono hx' (Fro.refl _ w)
  | sl h =>
    intro x hx
    cases hx with
    | sl h1 h2 h3 h4 h5 =>
      refine .sl (by rw [rnR_add h]; exact h1) h2 (by omega) (by omega) (h5.imp id ?_)
      rintro ⟨B, base, size, g1, g2⟩
      exact ⟨B, base, size, (rnR_add h).trans g1, g2⟩
  | nil h =>
    intro x hx
    cases hx with
    | nils => exact .sl ⟨_, rnR_void h⟩ (Nat.le_refl _) (by simp) (by simp) (.inl rfl)
  | agg hs _ ih =>
    intro x hx
    rename_i xs ys _
    cases hx with
    | agg hs2 h2 =>
      refine .agg (hs.trans hs2) fun i v u h3 h4 => ?_
      have hi := (Array.getElem?_eq_some_iff.1 h3).1
      exact ih i v (ys[i]'(by omega)) h3 (Array.getElem?_eq_getElem (by omega)) (h2 i _ u (Array.getElem?_eq_getElem (by omega)) h4)
  | tuple hs _ ih =>
    intro x hx
    rename_i xs ys _
    cases hx with
    | tuple hs2 h2 =>
      refine .tuple (hs.trans hs2) fun i v u h3 h4 => ?_
      have hi := (Array.getElem?_eq_some_iff.1 h3).1
      exact ih i v (ys[i]'(by omega)) h3 (Array.getElem?_eq_getElem (by omega)) (h2 i _ u (Array.getElem?_eq_getElem (by omega)) h4)

theorem anew {P : Program} {f : FuncId} {args : List Value} {H : AH} {Bd : Nat} {post : Value → AH → Nat → Prop}
    (h : SCalls P f args H Bd fun r H' _ => ∃ σ L r0, Anew H Bd r H' σ L r0 ∧ post r0 (putN H Bd L) (Bd + L.length)) : SCalls P f args H Bd post := by
  refine ⟨h.1, fun A ι vs w hr hs => ?_⟩
  refine (h.2 A ι vs w hr hs).mono fun e w' ⟨v, r, ι', H', Bd', he, ⟨σ, L, r0, ha, hK⟩, hB, hrel, hvr, hkp, hag, hni⟩ => ?_
  have hb := hr.hb
  have hcl : ∀ {v x : Value}, NB Bd v → VR ι' w' v x → VR (rnR ι' Bd σ) w' v x := fun hn hx => VR.rn (.same hn) hx
  have hge : ∀ n, ¬ n < Bd → ∃ i, n = Bd + i := fun n hn => ⟨n - Bd, by omega⟩
  have hput : ∀ {n b}, putN H Bd L n = some b → (n < Bd ∧ H n = some b) ∨ ∃ i c, n = Bd + i ∧ L[i]? = some c ∧ b = ⟨c, true⟩ := fun {n b} hn => by
    unfold putN at hn
    split at hn
    · rename_i hlt; exact .inl ⟨hlt, hn⟩
    · rename_i hlt
      cases hc : L[n - Bd]? with
      | none => rw [hc] at hn; cases hn
      | some c => rw [hc] at hn; cases hn; exact .inr ⟨n - Bd, c, by omega, hc, rfl⟩
  have hsig : ∀ {i : Nat} {c}, L[i]? = some c → (σ[i]? = some Option.none ∧ c = []) ∨ ∃ m, σ[i]? = some (some m) := fun {i c} hc => by
    have hi := (List.getElem?_eq_some_iff.1 hc).1
    have hi2 : i < σ.length := by rw [ha.len]; exact hi
    cases hs : σ[i]? with
    | none => rw [List.getElem?_eq_getElem hi2] at hs; cases hs
    | some o => cases o with
      | none => have := ha.zero i hs; rw [hc] at this; cases this; exact .inl ⟨rfl, rfl⟩
      | some m => exact .inr ⟨m, rfl⟩
  refine ⟨v, r0, rnR ι' Bd σ, putN H Bd L, Bd + L.length, he, hK, Nat.le_add_right _ _, ?_, hvr.rn ha.val, ⟨hkp.os, hkp.tape, hkp.output, hkp.size, hkp.block, hkp.rows, hkp.fz, hkp.fzA⟩, fun n hn => (rnR_lt hn).trans (hag n hn), fun n b hn ho => ?_⟩
  · refine ⟨fun n hn => ?_, fun n b hn => ?_, fun n m b b' B base B' base' hne h1 h2 ho i1 i2 => ?_, hrel.newA, fun n b B base h1 ho i1 => ?_, hrel.fzlt, fun n b hn hq => ?_, hrel.mp⟩
    · obtain ⟨i, rfl⟩ := hge n (by omega)
      have : σ[i]? = none := List.getElem?_eq_none (by rw [ha.len]; omega)
      show (if Bd + i < Bd then ι' (Bd + i) else _) = _
      rw [if_neg (by omega), Nat.add_sub_cancel_left, this]
    · rcases hput hn with ⟨hlt, hn⟩ | ⟨i, c, rfl, hc, rfl⟩
      · rcases hrel.blk n b (ha.le n b hn) with ⟨hv, hc⟩ | ⟨B, base, cs, e1, fr, g1, g2, g3, g4, g5⟩
        · exact .inl ⟨(rnR_lt hlt).trans hv, hc⟩
        · refine .inr ⟨B, base, cs, e1, fr, (rnR_lt hlt).trans g1, g2, g3, g4, fun i v hv => ?_⟩
          obtain ⟨v', k1, k2⟩ := g5 i v hv
          exact ⟨v', k1, hcl (hb.nb n b hn v (List.mem_of_getElem? hv)) k2⟩
      · rcases hsig hc with ⟨hs, rfl⟩ | ⟨m, hs⟩
        · exact .inl ⟨rnR_void hs, rfl⟩
        · obtain ⟨_, b, c', g1, g2, g3, g4, g5⟩ := ha.blk i m hs
          rw [hc] at g3; cases g3
          rcases hrel.blk m b g1 with ⟨hv, hcn⟩ | ⟨B, base, cs, e1, fr, k1, k2, k3, k4, k5⟩
          · refine .inl ⟨(rnR_add hs).trans hv, ?_⟩
            rw [hcn] at g4
            exact List.eq_nil_of_length_eq_zero g4
          · refine .inr ⟨B, base, cs, e1, fr, (rnR_add hs).trans k1, k2, fun _ => k3 g2, (fun h => by cases h), fun j v hv => ?_⟩
            have hj : j < b.cells.length := g4 ▸ (List.getElem?_eq_some_iff.1 hv).1
            obtain ⟨v', l1, l2⟩ := k5 j (b.cells[j]'(by omega)) (List.getElem?_eq_getElem (by omega))
            exact ⟨v', l1, l2.rn (g5 j v _ hv (List.getElem?_eq_getElem (by omega)))⟩
    · rcases hput h1 with ⟨hn, h1⟩ | ⟨i, c, rfl, hc, rfl⟩
      · rw [rnR_lt hn] at i1
        rcases hput h2 with ⟨hm, h2⟩ | ⟨j, d, rfl, hd, rfl⟩
        · rw [rnR_lt hm] at i2
          exact hrel.apart n m b b' B base B' base' hne (ha.le n b h1) (ha.le m b' h2) ho i1 i2
        · rcases hsig hd with ⟨hs, rfl⟩ | ⟨m, hs⟩
          · rw [rnR_void hs] at i2; cases i2
          · obtain ⟨g0, b2, c', g1, g2, _⟩ := ha.blk j m hs
            rw [rnR_add hs] at i2
            exact hrel.apart n m b b2 B base B' base' (by omega) (ha.le n b h1) g1 ho i1 i2
      · rcases hsig hc with ⟨hs, rfl⟩ | ⟨n, hs⟩
        · rw [rnR_void hs] at i1; cases i1
        · obtain ⟨g0, b1, c', g1, g2, _⟩ := ha.blk i n hs
          rw [rnR_add hs] at i1
          rcases hput h2 with ⟨hm, h2⟩ | ⟨j, d, rfl, hd, rfl⟩
          · rw [rnR_lt hm] at i2
            exact hrel.apart n m b1 b' B base B' base' (by omega) g1 (ha.le m b' h2) g2 i1 i2
          · rcases hsig hd with ⟨ht, rfl⟩ | ⟨m, ht⟩
            · rw [rnR_void ht] at i2; cases i2
            · obtain ⟨_, b2, _, k1, _⟩ := ha.blk j m ht
              rw [rnR_add ht] at i2
              refine hrel.apart n m b1 b2 B base B' base' (fun e => ?_) g1 k1 g2 i1 i2
              subst e
              exact hne (by rw [ha.nodup i j n hs ht])
    · rcases hput h1 with ⟨hn, h1⟩ | ⟨i, c, rfl, hc, rfl⟩
      · rw [rnR_lt hn] at i1
        exact hrel.froz n b B base (ha.le n b h1) ho i1
      · rcases hsig hc with ⟨hs, rfl⟩ | ⟨n, hs⟩
        · rw [rnR_void hs] at i1; cases i1
        · obtain ⟨_, b1, c', g1, g2, _⟩ := ha.blk i n hs
          rw [rnR_add hs] at i1
          exact hrel.froz n b1 B base g1 g2 i1
    · rcases hput hn with ⟨hlt, hn⟩ | ⟨i, c, rfl, hc, rfl⟩
      · exact ⟨(rnR_lt hlt).trans (hrel.glob n b (ha.le n b hn) hq).1, (hrel.glob n b (ha.le n b hn) hq).2⟩
      · cases hq
  · rcases hput hn with ⟨_, hn⟩ | ⟨i, c, rfl, _, rfl⟩
    · exact ⟨b, hn, ho⟩
    · cases ho
end Go.SC
