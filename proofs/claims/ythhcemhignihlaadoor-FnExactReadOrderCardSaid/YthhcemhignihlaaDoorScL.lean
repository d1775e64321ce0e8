/- Code over abstract memory: triples, loops, functions. -/
import Derived.Test.YthhcemhignihlaaDoorScK
set_option linter.unusedSimpArgs false
set_option linter.unusedVariables false
namespace Go.SC
open Go

abbrev APost := Exit → List Value → AH → Nat → Prop

/-- What a piece of code does to abstract slots and memory; names below N0 keep their places. -/
def Tr (P : Program) (N0 : Nat) (c : Code) (Q : APost) (s : List Value) (H : AH) (Bd : Nat) : Prop :=
  N0 ≤ Bd → ∀ (A : Nat → Prop) (ι : Ren) (a : Act) (w : World), St A ι s H Bd a w →
    c.wp P (fun e a' w' => ∃ ι' s' H' Bd', Q e s' H' Bd' ∧ N0 ≤ Bd' ∧ St A ι' s' H' Bd' a' w' ∧ Keep A ι w ι' w' ∧ Agr N0 ι ι' ∧ NI H H') a w

theorem Tr.mono {P : Program} {N0 : Nat} {c : Code} {Q Q' : APost} {s : List Value} {H : AH} {Bd : Nat} (h : Tr P N0 c Q s H Bd) (hq : ∀ e s H Bd, Q e s H Bd → Q' e s H Bd) : Tr P N0 c Q' s H Bd :=
  fun hN A ι a w hst => wp_mono (h hN A ι a w hst) fun e a' w' ⟨ι', s', H', Bd', h1, h2⟩ => ⟨ι', s', H', Bd', hq _ _ _ _ h1, h2⟩

def thenQ (next : List Value → AH → Nat → Prop) (Q : APost) : APost
  | .normal => next
  | e => Q e
def inBlockQ (id : Nat) (Q : APost) : APost
  | .exit id' => if id' = id then Q .normal else Q (.exit id')
  | e => Q e
@[simp] theorem thenQ_normal (n : List Value → AH → Nat → Prop) (Q : APost) : thenQ n Q .normal = n := rfl
@[simp] theorem thenQ_ret (n : List Value → AH → Nat → Prop) (Q : APost) : thenQ n Q .ret = Q .ret := rfl
@[simp] theorem thenQ_exit (n : List Value → AH → Nat → Prop) (Q : APost) (i : Nat) : thenQ n Q (.exit i) = Q (.exit i) := rfl
@[simp] theorem inBlockQ_normal (id : Nat) (Q : APost) : inBlockQ id Q .normal = Q .normal := rfl
@[simp] theorem inBlockQ_ret (id : Nat) (Q : APost) : inBlockQ id Q .ret = Q .ret := rfl
@[simp] theorem inBlockQ_exit (id : Nat) (Q : APost) (i : Nat) : inBlockQ id Q (.exit i) = if i = id then Q .normal else Q (.exit i) := rfl

/-- The condition under which code does what Q says. -/
def vc {P : Program} (E : Env P) (N0 : Nat) : Code → APost → List Value → AH → Nat → Prop
  | .skip, Q => Q .normal
  | .seq x y, Q => vc E N0 x (thenQ (vc E N0 y Q) Q)
  | .cond c x y, Q => fun s H Bd => match ev s c with
    | .bool b => Cnd b (vc E N0 x Q s H Bd) (vc E N0 y Q s H Bd)
    | _ => False
  | .block id c, Q => vc E N0 c (inBlockQ id Q)
  | .loop c, Q => fun s H Bd => Tr P N0 (.loop c) Q s H Bd
  | .exit id, Q => Q (.exit id)
  | .ret, Q => Q .ret
  | .region _ ops false, Q => fun s H Bd => vops E ops.toList ops.toList s H Bd (Q .normal)
  | c, Q => fun s H Bd => Tr P N0 c Q s H Bd

theorem vc_sound {P : Program} (hP : POk P) {E : Env P} {N0 : Nat} : ∀ (c : Code) (Q : APost) (s : List Value) (H : AH) (Bd : Nat), vc E N0 c Q s H Bd → Tr P N0 c Q s H Bd
  | .skip, Q, s, H, Bd, h => fun hN A ι a w hst => wp_skip ⟨ι, s, H, Bd, h, hN, hst, Keep.refl A w, Agr.refl _ _, NI.refl _⟩
  | .seq x y, Q, s, H, Bd, h => fun hN A ι a w hst => by
    refine wp_seq (wp_mono (vc_sound hP x _ s H Bd h hN A ι a w hst) fun e a' w' ⟨ι', s', H', Bd', h1, h2, h3, h4, h5, h6⟩ => ?_)
    cases e with
    | normal =>
      simp only [Exit.then]
      refine wp_mono (vc_sound hP y Q s' H' Bd' h1 h2 A ι' a' w' h3) fun e2 a2 w2 ⟨ι2, s2, H2, Bd2, g1, g2, g3, g4, g5, g6⟩ => ?_
      exact ⟨ι2, s2, H2, Bd2, g1, g2, g3, h4.trans g4, h5.trans g5 (Nat.le_refl _), h6.trans g6⟩
    | _ => exact ⟨ι', s', H', Bd', h1, h2, h3, h4, h5, h6⟩
  | .cond c x y, Q, s, H, Bd, h => fun hN A ι a w hst => by
    unfold vc at h
    split at h
    · rename_i b hb
      have hc := hst.slots.ev c
      rw [hb] at hc
      generalize hcv : a.eval c = cv at hc
      cases hc
      refine wp_cond hcv ?_
      cases b with
      | true => exact vc_sound hP x Q s H Bd (h.1 rfl) hN A ι a w hst
      | false => exact vc_sound hP y Q s H Bd (h.2 rfl) hN A ι a w hst
    · cases h
  | .block id c, Q, s, H, Bd, h => fun hN A ι a w hst => by
    refine wp_block (wp_mono (vc_sound hP c _ s H Bd h hN A ι a w hst) fun e a' w' ⟨ι', s', H', Bd', h1, h2⟩ => ?_)
    cases e with
    | exit id' =>
      simp only [inBlockQ, Exit.inBlock] at h1 ⊢
      by_cases hid : id' = id
      · rw [if_pos hid] at h1; rw [if_pos hid]; exact ⟨ι', s', H', Bd', h1, h2⟩
      · rw [if_neg hid] at h1; rw [if_neg hid]; exact ⟨ι', s', H', Bd', h1, h2⟩
    | _ => exact ⟨ι', s', H', Bd', h1, h2⟩
  | .loop c, Q, s, H, Bd, h => h
  | .exit id, Q, s, H, Bd, h => fun hN A ι a w hst => wp_exit ⟨ι, s, H, Bd, h, hN, hst, Keep.refl A w, Agr.refl _ _, NI.refl _⟩
  | .ret, Q, s, H, Bd, h => fun hN A ι a w hst => wp_ret ⟨ι, s, H, Bd, h, hN, hst, Keep.refl A w, Agr.refl _ _, NI.refl _⟩
  | .region id ops false, Q, s, H, Bd, h => fun hN A ι a w hst => by
    refine wp_region_list (vops_sound hP ops.toList s H Bd h A ι a w hst fun s' H' Bd' ι' a' w' h1 h2 h3 h4 h5 h6 => ?_)
    exact ⟨ι', s', H', Bd', h1, Nat.le_trans hN h2, h3, h4, fun n hn => h5 n (Nat.lt_of_lt_of_le hn hN), h6⟩
  | .region _ _ true, _, _, _, _, h => h
  | .rangeFunc .., _, _, _, _, h => h
  | .scope _, _, _, _, _, h => h
  | .label _, _, _, _, _, h => h
  | .goto _, _, _, _, _, h => h
  | .refuse _, _, _, _, _, h => h

/-! ### what may be forgotten -/
def Le (H' H : AH) : Prop := ∀ n b, H' n = some b → H n = some b
theorem Le.refl (H : AH) : Le H H := fun _ _ h => h
theorem Le.trans {a b c : AH} (h : Le a b) (k : Le b c) : Le a c := fun n x hx => k n x (h n x hx)
theorem Le.both {H' H : AH} (h : Le H' H) (n : Nat) (b : Option Blk) : Le (SC.upd H' n b) (SC.upd H n b) := fun m c hm => by
  by_cases e : m = n
  · subst e; rw [upd_same] at hm ⊢; exact hm
  · rw [upd_other _ _ e] at hm ⊢; exact h m c hm
theorem Le.fresh {H' H : AH} (h : Le H' H) {n : Nat} (hn : H' n = none) (b : Option Blk) : Le H' (SC.upd H n b) := fun m c hm => by
  by_cases e : m = n
  · subst e; rw [hn] at hm; cases hm
  · rw [upd_other _ _ e]; exact h m c hm

/-- Slots of which some are forgotten. -/
def fits : List Value → List Value → Prop
  | [], [] => True
  | x :: xs, y :: ys => (y = unk ∨ x = y) ∧ fits xs ys
  | _, _ => False
theorem fits_sound {ι : Ren} {w : World} : ∀ (s s' : List Value), fits s s' → s.length = s'.length ∧ ∀ (i : Nat) y, s'[i]? = some y → y = unk ∨ s[i]? = some y
  | [], [], _ => ⟨rfl, fun i y h => by simp at h⟩
  | x :: xs, y :: ys, h => by
    obtain ⟨h1, h2⟩ := fits_sound (ι := ι) (w := w) xs ys h.2
    refine ⟨by simp [h1], fun i z hz => ?_⟩
    cases i with
    | zero =>
      simp only [List.getElem?_cons_zero, Option.some.injEq] at hz ⊢
      subst hz
      exact h.1
    | succ i => simpa using h2 i z (by simpa using hz)
  | [], _ :: _, h => h.elim
  | _ :: _, [], h => h.elim

/-- From one state to another of which less is said. -/
def Sub (s : List Value) (H : AH) (Bd : Nat) (s' : List Value) (H' : AH) (Bd' : Nat) : Prop := fits s s' ∧ Le H' H ∧ Bd ≤ Bd'

theorem Sub.st {A : Nat → Prop} {ι : Ren} {s s' : List Value} {H H' : AH} {Bd Bd' : Nat} {a : Act} {w : World} (h : Sub s H Bd s' H' Bd') (hst : St A ι s H Bd a w) : St A ι s' H' Bd' a w := by
  obtain ⟨h1, h2⟩ := fits_sound (ι := ι) (w := w) s s' h.1
  refine ⟨(hst.rel.sub h.2.1).raise h.2.2, ⟨by rw [← h1]; exact hst.slots.1, fun i v v' g1 g2 => ?_⟩, hst.defers⟩
  rcases h2 i v g1 with rfl | g3
  · exact .unk _
  · exact hst.slots.2 i v v' g3 g2

theorem least_of (p : Nat → Prop) : ∀ n, p n → ∃ k, p k ∧ ∀ m, p m → k ≤ m := by
  intro n
  induction n using Nat.strongRecOn with
  | _ n ih =>
    intro hn
    by_cases h : ∃ m, m < n ∧ p m
    · obtain ⟨m, hm, hp⟩ := h; exact ih m hm hp
    · exact ⟨n, hn, fun m hm => Nat.le_of_not_lt fun hlt => h ⟨m, hlt, hm⟩⟩

open Classical in
noncomputable def leastN (p : Nat → Prop) : Nat := if h : ∃ k, p k ∧ ∀ m, p m → k ≤ m then Classical.choose h else 0
theorem leastN_spec {p : Nat → Prop} {n : Nat} (h : p n) : p (leastN p) ∧ ∀ m, p m → leastN p ≤ m := by
  unfold leastN
  rw [dif_pos (least_of p n h)]
  exact Classical.choose_spec (least_of p n h)

/-- A loop: a state for each ghost value, and a measure. -/
theorem tr_loop {P : Program} {N0 : Nat} {c : Code} {Q : APost} {s : List Value} {H : AH} {Bd : Nat} {X : Type} (I : X → Prop) (sl : X → List Value) (hp : X → AH) (bd : X → Nat) (μ : X → Nat) (x0 : X) (h0 : I x0)
    (hs : Sub s H Bd (sl x0) (hp x0) (bd x0))
    (round : ∀ x, I x → N0 ≤ bd x → Tr P N0 c (thenQ (fun s' H' Bd' => ∃ y, I y ∧ μ y < μ x ∧ Sub s' H' Bd' (sl y) (hp y) (bd y)) Q) (sl x) (hp x) (bd x)) :
    Tr P N0 (.loop c) Q s H Bd := by
  intro hN A ι a w hst
  let Inv : X → Act → World → Prop := fun x a' w' => ∃ ι', I x ∧ N0 ≤ bd x ∧ St A ι' (sl x) (hp x) (bd x) a' w' ∧ Keep A ι w ι' w' ∧ Agr N0 ι ι' ∧ NI H (hp x)
  refine wp_loop (I := fun a' w' => ∃ x, Inv x a' w') (μ := fun a' w' => leastN fun n => ∃ x, μ x = n ∧ Inv x a' w') ?_ ?_
  · exact ⟨x0, ι, h0, Nat.le_trans hN hs.2.2, hs.st hst, Keep.refl A w, Agr.refl _ _, (NI.refl _).sub hs.2.1⟩
  · rintro a1 w1 ⟨x1, hx1⟩
    obtain ⟨⟨x, hμ, ι1, hI, hb, hst1, hk1, hag1, hni1⟩, hmin⟩ := leastN_spec (p := fun n => ∃ x, μ x = n ∧ Inv x a1 w1) ⟨x1, rfl, hx1⟩
    refine wp_mono (round x hI hb hb A ι1 a1 w1 hst1) fun e a2 w2 ⟨ι2, s2, H2, Bd2, h1, h2, h3, h4, h5, h6⟩ => ?_
    cases e with
    | normal =>
      obtain ⟨y, hy, hlt, hsub⟩ := h1
      have hinv : Inv y a2 w2 := ⟨ι2, hy, Nat.le_trans h2 hsub.2.2, hsub.st h3, hk1.trans h4, hag1.trans h5 (Nat.le_refl _), (hni1.trans h6).sub hsub.2.1⟩
      refine ⟨⟨y, hinv⟩, ?_⟩
      rw [← hμ]
      exact Nat.lt_of_le_of_lt ((leastN_spec (p := fun n => ∃ x, μ x = n ∧ Inv x a2 w2) ⟨y, rfl, hinv⟩).2 _ ⟨y, rfl, hinv⟩) hlt
    | _ => exact ⟨ι2, s2, H2, Bd2, h1, h2, h3, hk1.trans h4, hag1.trans h5 (Nat.le_refl _), hni1.trans h6⟩

/-! ### functions -/
/-- What names a value bears lie below a bound. -/
inductive NB (Bd : Nat) : Value → Prop
  | unk : NB Bd SC.unk
  | bool (b : Bool) : NB Bd (.bool b)
  | int (k : IntKind) (n : Int) : NB Bd (.int k n)
  | string (s : ByteArray) : NB Bd (.string s)
  | nilp : NB Bd (.pointer none)
  | ptr {n off : Nat} (h : n < Bd) : NB Bd (.pointer (some ⟨n, off, none⟩))
  | nils : NB Bd (.slice none 0 0)
  | sl {n off k len c : Nat} (h : n < Bd) : NB Bd (.slice (some ⟨n, off, some k⟩) len c)
  | agg {xs : Array Value} (h : ∀ (i : Nat) v, xs[i]? = some v → NB Bd v) : NB Bd (.agg xs)
  | tuple {xs : Array Value} (h : ∀ (i : Nat) v, xs[i]? = some v → NB Bd v) : NB Bd (.tuple xs)
  | func {f : FuncId} {xs : Array Value} (h : ∀ (i : Nat) v, xs[i]? = some v → NB Bd v) : NB Bd (.func (.func f) #[] xs)
  | nilf : NB Bd .nilFunc
  | nili : NB Bd .nilIface
  | iface {t : TypeId} {v : Value} (h : NB Bd v) : NB Bd (.iface t v)
  | lst {k : Nat} {rows : Array Value} (h : ∀ (i j : Nat) (r : Array Value) v, rows[i]? = some (.agg r) → r[j]? = some v → NB Bd v) : NB Bd (.func (.yield k) #[] rows)
  | vp {cells : Array Value} (h : ∀ (i : Nat) v, cells[i]? = some v → NB Bd v) : NB Bd (.func (.method "") #[] cells)
  | mp {rows : Array Value} : NB Bd (.func (.methodOf 0 "") #[] rows)

theorem VR.nb {ι : Ren} {w : World} {Bd : Nat} (hb : ∀ n, Bd ≤ n → ι n = none) {v v' : Value} (h : VR ι w v v') : NB Bd v := by
  have lt : ∀ {n l}, ι n = some l → n < Bd := fun {n l} hn => by
    rcases Nat.lt_or_ge n Bd with h | h
    · exact h
    · rw [hb n h] at hn; cases hn
  induction h with
  | unk => exact .unk
  | bool => exact .bool _
  | int => exact .int _ _
  | string => exact .string _
  | nilp => exact .nilp
  | ptr h => exact .ptr (lt h)
  | nils => exact .nils
  | sl hn => obtain ⟨l, hl⟩ := hn; exact .sl (lt hl)
  | agg hs _ ih =>
    refine .agg fun i v hv => ?_
    have hlt := (Array.getElem?_eq_some_iff.1 hv).1
    exact ih i v _ hv (Array.getElem?_eq_getElem (hs ▸ hlt))
  | tuple hs _ ih =>
    refine .tuple fun i v hv => ?_
    have hlt := (Array.getElem?_eq_some_iff.1 hv).1
    exact ih i v _ hv (Array.getElem?_eq_getElem (hs ▸ hlt))
  | func hs _ ih =>
    refine .func fun i v hv => ?_
    have hlt := (Array.getElem?_eq_some_iff.1 hv).1
    exact ih i v _ hv (Array.getElem?_eq_getElem (hs ▸ hlt))
  | nilf => exact .nilf
  | nili => exact .nili
  | iface _ ih => exact .iface ih
  | lst0 => exact .lst fun i j r v h1 => by simp at h1
  | lst hfz hB hl hsz hr hc ih =>
    rename_i k rows B base c' cs e fr
    refine .lst fun i j r v h1 h2 => ?_
    obtain ⟨r', he, hk⟩ := hr i _ h1
    cases he
    have hi := (Array.getElem?_eq_some_iff.1 h1).1
    have hj := (Array.getElem?_eq_some_iff.1 h2).1
    have hm : i * k + k ≤ c' * k := by
      have : i * k + k = (i + 1) * k := (Nat.succ_mul _ _).symm
      rw [this]; exact Nat.mul_le_mul_right _ (by omega)
    exact ih i j r v _ h1 h2 (Array.getElem?_eq_getElem (by omega))
  | vp hfz hB hsz hc ih =>
    rename_i cells B base cs e fr
    refine .vp fun j v h1 => ?_
    have hj := (Array.getElem?_eq_some_iff.1 h1).1
    exact ih j v _ h1 (Array.getElem?_eq_getElem (by omega))
  | mp => exact .mp

/-- A map of names, cut at a bound. -/
def cutR (ι : Ren) (Bd : Nat) : Ren := ⟨fun n => if n < Bd then ι n else none, ι.fz, ι.mp⟩

theorem VR.cut {ι : Ren} {w : World} {Bd : Nat} {v v' : Value} (h : VR ι w v v') (hn : NB Bd v) : VR (cutR ι Bd) w v v' := by
  have e : ∀ {n}, n < Bd → cutR ι Bd n = ι n := fun h => by simp [cutR, h]
  induction h with
  | unk => exact .unk _
  | bool => exact .bool _
  | int => exact .int _ _
  | string => exact .string _
  | nilp => exact .nilp
  | ptr h => cases hn with | ptr hn => exact .ptr ((e hn).trans h)
  | nils => exact .nils
  | sl h1 h2 h3 h4 h5 => cases hn with
    | sl hn =>
      refine .sl (by rw [e hn]; exact h1) h2 h3 h4 (h5.imp id ?_)
      rintro ⟨B, base, size, g1, g2⟩
      exact ⟨B, base, size, (e hn).trans g1, g2⟩
  | agg hs _ ih => cases hn with | agg hn => exact .agg hs fun i v v' h1 h2 => ih i v v' h1 h2 (hn i v h1)
  | tuple hs _ ih => cases hn with | tuple hn => exact .tuple hs fun i v v' h1 h2 => ih i v v' h1 h2 (hn i v h1)
  | func hs _ ih => cases hn with | func hn => exact .func hs fun i v v' h1 h2 => ih i v v' h1 h2 (hn i v h1)
  | nilf => exact .nilf
  | nili => exact .nili
  | iface _ ih => cases hn with | iface hn => exact .iface (ih hn)
  | lst0 => exact .lst0
  | lst hfz hB hl hsz hr hc ih => cases hn with | lst hn => exact .lst hfz hB hl hsz hr fun i j r v v' h1 h2 h3 => ih i j r v v' h1 h2 h3 (hn i j r v h1 h2)
  | vp hfz hB hsz hc ih => cases hn with | vp hn => exact .vp hfz hB hsz fun j v v' h1 h2 => ih j v v' h1 h2 (hn j v h1)
  | mp h => exact .mp h

/-- Memory whose names lie below a bound. -/
structure HB (H : AH) (Bd : Nat) : Prop where
  fresh : ∀ n, Bd ≤ n → H n = none
  nb : ∀ n b, H n = some b → ∀ v ∈ b.cells, NB Bd v

theorem Rel.hb {A : Nat → Prop} {ι : Ren} {H : AH} {Bd : Nat} {w : World} (h : Rel A ι H Bd w) : HB H Bd := by
  refine ⟨fun n hn => ?_, fun n b hb v hv => ?_⟩
  · cases hx : H n with
    | none => rfl
    | some b => have := h.named hx; omega
  · rcases h.blk n b hb with ⟨_, hc⟩ | ⟨B, base, cs, e, fr, h1, h2, h3, h4, h5⟩
    · rw [hc] at hv; cases hv
    · obtain ⟨i, hi, rfl⟩ := List.getElem_of_mem hv
      obtain ⟨v', _, hr⟩ := h5 i b.cells[i] (by simp [hi])
      exact hr.nb h.bound

theorem Rel.cut {A : Nat → Prop} {ι : Ren} {H H' : AH} {Bd Bd' : Nat} {w : World} (h : Rel A ι H Bd w) (hle : Le H' H) (hb : HB H' Bd') : Rel A (cutR ι Bd') H' Bd' w := by
  have e : ∀ {n}, n < Bd' → cutR ι Bd' n = ι n := fun h => by simp [cutR, h]
  have lt : ∀ {n b}, H' n = some b → n < Bd' := fun {n b} hn => by
    rcases Nat.lt_or_ge n Bd' with h | h
    · exact h
    · rw [hb.fresh n h] at hn; cases hn
  refine ⟨fun n hn => by simp [cutR]; omega, fun n b hn => ?_, fun n m b b' B base B' base' hne h1 h2 ho i1 i2 => ?_, h.newA, fun n b B base h1 ho i1 => ?_, h.fzlt, fun n b hn hq => ⟨(e (lt hn)).trans (h.glob n b (hle n b hn) hq).1, (h.glob n b (hle n b hn) hq).2⟩, h.mp⟩
  · rcases h.blk n b (hle n b hn) with ⟨hv, hc⟩ | ⟨B, base, cs, e1, fr, h1, h2, h3, h4, h5⟩
    · exact .inl ⟨(e (lt hn)).trans hv, hc⟩
    · refine .inr ⟨B, base, cs, e1, fr, (e (lt hn)).trans h1, h2, h3, h4, fun i v hv => ?_⟩
      obtain ⟨v', g1, g2⟩ := h5 i v hv
      exact ⟨v', g1, g2.cut (hb.nb n b hn v (List.mem_of_getElem? hv))⟩
  · rw [e (lt h1)] at i1
    rw [e (lt h2)] at i2
    exact h.apart n m b b' B base B' base' hne (hle n b h1) (hle m b' h2) ho i1 i2
  · rw [e (lt h1)] at i1
    exact h.froz n b B base (hle n b h1) ho i1

/-! ### blocks that are never written again -/
/-- A value, and the same with lists in place of its own blocks (those of S). -/
inductive Pub (H : AH) (S : Nat → Prop) : Value → Value → Prop
  | same (v : Value) : Pub H S v v
  | agg {xs ys : Array Value} (hs : xs.size = ys.size) (h : ∀ (i : Nat) v u, xs[i]? = some v → ys[i]? = some u → Pub H S v u) : Pub H S (.agg xs) (.agg ys)
  | tuple {xs ys : Array Value} (hs : xs.size = ys.size) (h : ∀ (i : Nat) v u, xs[i]? = some v → ys[i]? = some u → Pub H S v u) : Pub H S (.tuple xs) (.tuple ys)
  | empty {a : Option Addr} {c k : Nat} : Pub H S (.slice a 0 c) (.func (.yield k) #[] #[])
  | lst {n off k len c : Nat} {b : Blk} {rows : Array Value} (hS : S n) (hb : H n = some b) (ho : b.own = true) (hn : rows.size = len) (hle : off + len * k ≤ b.cells.length)
      (hr : ∀ (i : Nat) x, rows[i]? = some x → ∃ r : Array Value, x = .agg r ∧ r.size = k)
      (hc : ∀ (i j : Nat) (r : Array Value) v u, rows[i]? = some (.agg r) → b.cells[off + i * k + j]? = some v → r[j]? = some u → Pub H S v u) :
      Pub H S (.slice (some ⟨n, off, some k⟩) len c) (.func (.yield k) #[] rows)

def frz (ι : Ren) (H : AH) (S : Nat → Prop) : Ren := ⟨ι.m, fun B => ι.fz B ∨ ∃ n b base, S n ∧ H n = some b ∧ b.own = true ∧ ι n = some (.at B base), ι.mp⟩

theorem ext_frz (ι : Ren) (H : AH) (S : Nat → Prop) : Ext ι (frz ι H S) := ⟨fun _ _ h => h, fun _ h => .inl h, fun _ _ h => h⟩

theorem VR.pub {A : Nat → Prop} {ι : Ren} {H : AH} {Bd : Nat} {w : World} (hr : Rel A ι H Bd w) {S : Nat → Prop} {v u : Value} (hp : Pub H S v u) : ∀ {v' : Value}, VR ι w v v' → VR (frz ι H S) w u v' := by
  induction hp with
  | same v => intro v' h; exact h.mono (ext_frz ι H S) (Fro.refl ι w)
  | agg hs h ih =>
    rename_i xs ys
    intro v' hv
    cases hv with
    | agg hs2 h2 =>
    refine .agg (hs.symm.trans hs2) fun i u x h3 h4 => ?_
    have hi := (Array.getElem?_eq_some_iff.1 h3).1
    exact ih i (xs[i]'(by omega)) u (Array.getElem?_eq_getElem (by omega)) h3 (h2 i _ x (Array.getElem?_eq_getElem (by omega)) h4)
  | tuple hs h ih =>
    rename_i xs ys
    intro v' hv
    cases hv with
    | tuple hs2 h2 =>
    refine .tuple (hs.symm.trans hs2) fun i u x h3 h4 => ?_
    have hi := (Array.getElem?_eq_some_iff.1 h3).1
    exact ih i (xs[i]'(by omega)) u (Array.getElem?_eq_getElem (by omega)) h3 (h2 i _ x (Array.getElem?_eq_getElem (by omega)) h4)
  | empty =>
    intro v' hv
    cases hv with
    | nils => exact .lst0
    | sl => exact .lst0
  | lst hS hb ho hn hle hrr hc ih =>
    rename_i n off k len c b rows
    intro v' hv
    cases hv with
    | sl hn1 hl h0 h1 hA =>
    rename_i c' A'
    subst hn
    rcases hA with hA | ⟨B, base, size, hι, rfl, ⟨cs, e, fr, hB, rfl⟩, hsz⟩
    · have : rows = #[] := Array.eq_empty_of_size_eq_zero (by omega)
      subst this
      exact .lst0
    · rcases hr.blk n b hb with ⟨hvd, _⟩ | ⟨B1, base1, cs1, e1, fr1, g1, g2, g3, g4, g5⟩
      · rw [hι] at hvd; cases hvd
      rw [hι] at g1
      cases g1
      rw [hB] at g2
      cases g2
      refine .lst (.inr ⟨n, b, base, hS, hb, ho, hι⟩) hB hl hsz hrr fun i j r u x q1 q2 q3 => ?_
      obtain ⟨r', he, hk⟩ := hrr i _ q1
      cases he
      have hi := (Array.getElem?_eq_some_iff.1 q1).1
      have hj := (Array.getElem?_eq_some_iff.1 q2).1
      have hm : i * k + k ≤ rows.size * k := by
        have : i * k + k = (i + 1) * k := (Nat.succ_mul _ _).symm
        rw [this]; exact Nat.mul_le_mul_right _ (by omega)
      have hlt : off + i * k + j < b.cells.length := by omega
      obtain ⟨y, p1, p2⟩ := g5 (off + i * k + j) b.cells[off + i * k + j] (List.getElem?_eq_getElem hlt)
      rw [show base + (off + i * k + j) = base + off + i * k + j by omega, q3] at p1
      cases p1
      exact ih i j r _ u q1 (List.getElem?_eq_getElem hlt) q2 p2

theorem Rel.frzA {A : Nat → Prop} {ι : Ren} {H : AH} {Bd : Nat} {w : World} (hr : Rel A ι H Bd w) (S : Nat → Prop) : ∀ B, (frz ι H S).fz B → ι.fz B ∨ A B := by
  rintro B (h | ⟨n, b, base, _, h2, h3, h4⟩)
  · exact .inl h
  · rcases hr.blk n b h2 with ⟨hv, _⟩ | ⟨B1, base1, cs, e, fr, g1, g2, g3, _⟩
    · rw [h4] at hv; cases hv
    · rw [h4] at g1; cases g1; exact .inr (g3 h3).1

theorem Rel.pub {A : Nat → Prop} {ι : Ren} {H H' : AH} {Bd : Nat} {w : World} (hr : Rel A ι H Bd w) {S : Nat → Prop} (hle : Le H' H) (hS : ∀ n b, H' n = some b → ¬ S n) : Rel A (frz ι H S) H' Bd w := by
  have h := hr.sub hle
  refine ⟨h.bound, fun n b hn => (h.blk n b hn).mono (ext_frz ι H S) (Fro.refl ι w) (fun _ _ _ => rfl), h.apart, h.newA, fun n b B base h1 ho i1 hz => ?_, fun B hz => ?_, fun n b hn hq => h.glob n b hn hq, h.mp⟩
  · rcases hz with hz | ⟨m, c, base', g1, g2, g3, g4⟩
    · exact h.froz n b B base h1 ho i1 hz
    · have hne : m ≠ n := fun e => hS n b h1 (e ▸ g1)
      exact hr.apart m n c b B base' B base hne g2 (hle n b h1) g3 g4 i1 rfl
  · rcases hz with hz | ⟨m, c, base', g1, g2, g3, g4⟩
    · exact h.fzlt B hz
    · exact hr.lt g2 g4

/-- What a function's variables come to. -/
def aresult (P : Program) (s : List Value) (H : AH) : ResultVar → Option Value
  | .tmp t => some (sget s t)
  | .cell a t => match sget s a with
    | .pointer (some ⟨n, off, none⟩) => match H n with
      | some b => aload P t b off
      | none => none
    | _ => none

def aresults (P : Program) (rs : List ResultVar) (s : List Value) (H : AH) : Option (List Value) :=
  match rs with
  | [] => some []
  | r :: rs => match aresult P s H r, aresults P rs s H with
    | some v, some vs => some (v :: vs)
    | _, _ => none

def tupleOf : List Value → Value
  | [v] => v
  | vs => .tuple vs.toArray

def resOf (tmps : Array Value) : ResultVar → Sem Value
  | .tmp t => pure (tmps.getD t undef)
  | .cell x t => do loadVar t (← asAddr (tmps.getD x undef))
theorem results_eq (fn : Func) (tmps : Array Value) : results fn tmps = (do
    let vs ← fn.results.mapM (resOf tmps)
    pure (if h : vs.size = 1 then vs[0] else .tuple vs)) := rfl

theorem aresult_sound {P : Program} {A : Nat → Prop} {ι : Ren} {s : List Value} {H : AH} {Bd : Nat} {a : Act} {w : World} (hst : St A ι s H Bd a w) {r : ResultVar} {v : Value} (h : aresult P s H r = some v) :
    ∃ v', (resOf a.tmps r).run P w = .ok v' w ∧ VR ι w v v' := by
  unfold aresult at h
  unfold resOf
  split at h
  · cases h; exact ⟨_, rfl, by rw [sget_eq]; exact hst.slots.get _⟩
  · rename_i x t
    split at h
    · rename_i n off hx
      split at h
      · rename_i b hb
        have hxv := hst.slots.get x
        rw [← sget_eq, hx] at hxv
        obtain ⟨v', h1, h2⟩ := aload_sound (P := P) hst.rel hb hxv h
        obtain ⟨B, base, hι, hxe⟩ := ev_ptr hxv
        refine ⟨v', ?_, h2⟩
        simp only [hxe, asAddr, Sem.run_bind, Sem.run_pure, Result.andThen_ok]
        rw [hxe] at h1
        simpa only [Instr.loadAt, Instr.sureAddr, Sem.run_bind, Sem.run_pure, Result.andThen_ok] using h1
      · cases h
    · cases h

theorem aresults_list {P : Program} {A : Nat → Prop} {ι : Ren} {s : List Value} {H : AH} {Bd : Nat} {a : Act} {w : World} (hst : St A ι s H Bd a w) : ∀ (rs : List ResultVar) (vs : List Value), aresults P rs s H = some vs →
    ∃ vs', (rs.mapM (resOf a.tmps)).run P w = .ok vs' w ∧ LR ι w vs vs'
  | [], vs, h => by cases h; exact ⟨[], rfl, .nil _ _⟩
  | r :: rs, vs, h => by
    unfold aresults at h
    split at h
    · rename_i v vs0 h1 h2
      cases h
      obtain ⟨v', g1, g2⟩ := aresult_sound (P := P) hst h1
      obtain ⟨vs', g3, g4⟩ := aresults_list hst rs vs0 h2
      refine ⟨v' :: vs', ?_, .cons g2 g4⟩
      rw [List.mapM_cons, Sem.run_bind, g1]
      simp only [Result.andThen_ok, Sem.run_bind, g3, Sem.run_pure]
    · cases h

theorem aresults_sound {P : Program} {fn : Func} {A : Nat → Prop} {ι : Ren} {s : List Value} {H : AH} {Bd : Nat} {a : Act} {w : World} (hst : St A ι s H Bd a w) {vs : List Value} (h : aresults P fn.results.toList s H = some vs) :
    ∃ v', (results fn a.tmps).run P w = .ok v' w ∧ VR ι w (tupleOf vs) v' := by
  obtain ⟨vs', h1, h2⟩ := aresults_list hst _ _ h
  rw [← Array.toList_mapM, Sem.run_map] at h1
  rw [results_eq]
  cases hq : (fn.results.mapM (resOf a.tmps)).run P w with
  | halt x w' => rw [hq] at h1; simp at h1
  | ok x w' =>
    rw [hq] at h1
    simp only [Result.andThen_ok, Result.ok.injEq] at h1
    obtain ⟨rfl, rfl⟩ := h1
    rw [Sem.run_bind, hq]
    simp only [Result.andThen_ok, Sem.run_pure]
    refine ⟨_, rfl, ?_⟩
    by_cases hx : x.size = 1
    · rw [dif_pos hx]
      have hl : vs.length = 1 := by rw [h2.1]; simpa using hx
      match vs, hl with
      | [v], _ => exact h2.2 0 v _ rfl (by simp [hx])
    · rw [dif_neg hx]
      have hl : vs.length ≠ 1 := by rw [h2.1]; simpa using hx
      have : tupleOf vs = .tuple vs.toArray := by
        match vs, hl with
        | [], _ => rfl
        | _ :: _ :: _, _ => rfl
      rw [this]
      exact .tuple (by have := h2.1; simpa using this) fun i v v' g1 g2 => h2.2 i v v' (by simpa using g1) (by simpa using g2)

/-- The end of a function: what is handed back, and how much memory is told of. -/
def RetQ (P : Program) (rs : List ResultVar) (H0 : AH) (Bd0 : Nat) (post : Value → AH → Nat → Prop) (s : List Value) (H : AH) (Bd : Nat) : Prop :=
  Yld (aresults P rs s H) fun vs => ∃ u S H' Bd', Pub H S (tupleOf vs) u ∧ (∀ n b, H' n = some b → ¬ S n) ∧ Le H' H ∧ Bd0 ≤ Bd' ∧ ((Bd ≤ Bd' ∧ (HB H' Bd' → NB Bd' u → post u H' Bd')) ∨ (NB Bd' u ∧ HB H' Bd' ∧ post u H' Bd'))

def fnQ (P : Program) (rs : List ResultVar) (H0 : AH) (Bd0 : Nat) (post : Value → AH → Nat → Prop) : APost
  | .normal => RetQ P rs H0 Bd0 post
  | .ret => RetQ P rs H0 Bd0 post
  | _ => fun _ _ _ => False

/-- A name that names nothing. -/
def free (H : AH) (n : Nat) : Prop := H n = none
/-- What a function yields that changes nothing and makes nothing. -/
def PureQ (P : Program) (rs : List ResultVar) (H0 : AH) (r0 : Value) (s : List Value) (H : AH) (Bd : Nat) : Prop :=
  Yld (aresults P rs s H) fun vs => Le H0 H ∧ Pub H (free H0) (tupleOf vs) r0

def pureQ (P : Program) (rs : List ResultVar) (H0 : AH) (r0 : Value) : APost
  | .normal => PureQ P rs H0 r0
  | .ret => PureQ P rs H0 r0
  | _ => fun _ _ _ => False

theorem Tr.conv {P : Program} {N0 : Nat} {c : Code} {Q Q' : APost} {s : List Value} {H : AH} {Bd : Nat} (h : Tr P N0 c Q s H Bd) (hq : ∀ e s H Bd, N0 ≤ Bd → Q e s H Bd → Q' e s H Bd) : Tr P N0 c Q' s H Bd :=
  fun hN A ι a w hst => wp_mono (h hN A ι a w hst) fun e a' w' ⟨ι', s', H', Bd', h1, h2, h3⟩ => ⟨ι', s', H', Bd', hq _ _ _ _ h2 h1, h2, h3⟩

theorem scalls_of_tr {P : Program} {f : FuncId} {fn : Func} {c : Code} {args : List Value} {H : AH} {Bd : Nat} {post : Value → AH → Nat → Prop} (hf : P.funcs[f]? = some fn) (hb : fn.body = some c) {rs : List ResultVar} (hrs : fn.results.toList = rs) (hent : Enters P f)
    (h : HB H Bd → (∀ v ∈ args, NB Bd v) → Tr P Bd c (fnQ P rs H Bd post) (args ++ List.replicate (fn.ntmps - args.length) undef) H Bd) : SCalls P f args H Bd post := by
  subst hrs
  refine ⟨hent, fun A ι vs w hr hs => ?_⟩
  have hargs : ∀ v ∈ args, NB Bd v := fun v hv => by
    obtain ⟨i, hi, rfl⟩ := List.getElem_of_mem hv
    have hlt : i < vs.size := hs.1 ▸ hi
    exact (hs.2 i args[i] vs[i] (by simp [hi]) (by simp [hlt])).nb hr.bound
  refine calls_of_wp hf hb (wp_mono ((h hr.hb hargs) (Nat.le_refl _) A ι _ w ⟨hr, ⟨?_, fun i v v' h1 h2 => ?_⟩, rfl⟩) fun e a' w' ⟨ι', s', H', Bd', h1, h2, h3, h4, h5, h6⟩ => ?_)
  · simp [hs.1]
  · simp only at h2
    rw [List.getElem?_append] at h1
    rw [Array.getElem?_append] at h2
    rw [hs.1] at h1
    split at h1
    · rename_i hi; rw [if_pos hi] at h2; exact hs.2 i v v' h1 h2
    · rename_i hi
      rw [if_neg hi] at h2
      rw [List.getElem?_replicate] at h1
      rw [Array.getElem?_replicate] at h2
      split at h1
      · rename_i hj
        rw [if_pos hj] at h2
        cases h1; cases h2; exact vr_undef ι w
      · cases h1
  · have key : RetQ P fn.results.toList H Bd post s' H' Bd' → a'.defers = [] ∧ ∃ v, (results fn a'.tmps).run P w' = .ok v w' ∧
        ∃ v1 r ι' H' Bd', Ending.returned v = .returned v1 ∧ post r H' Bd' ∧ Bd ≤ Bd' ∧ Rel A ι' H' Bd' w' ∧ VR ι' w' r v1 ∧ Keep A ι w ι' w' ∧ Agr Bd ι ι' ∧ NI H H' := by
      rintro ⟨vs', hvs, u, S, H2, Bd2, p1, p2, g1, g2, g3⟩
      obtain ⟨v', q1, q2⟩ := aresults_sound (P := P) h3 hvs
      refine ⟨h3.defers, v', q1, v', u, ?_⟩
      have q3 := VR.pub h3.rel p1 q2
      have hrp := h3.rel.pub g1 p2
      have hkp : Keep A ι w (frz ι' H' S) w' := h4.trans (Keep.refl A w' (ext_frz ι' H' S).fz (h3.rel.frzA S))
      rcases g3 with ⟨g3, g4⟩ | ⟨g3, g5, g4⟩
      · have hr2 := hrp.raise g3
        exact ⟨frz ι' H' S, H2, Bd2, rfl, g4 hr2.hb (q3.nb hr2.bound), g2, hr2, q3, hkp, h5, h6.sub g1⟩
      · refine ⟨cutR (frz ι' H' S) Bd2, H2, Bd2, rfl, g4, g2, hrp.cut (Le.refl _) g5, q3.cut g3, hkp.trans (Keep.refl A w'), fun n hn => ?_, h6.sub g1⟩
        rw [← h5 n hn]
        simp [cutR, frz]; omega
    cases e with
    | normal => exact key h1
    | ret => exact key h1
    | _ => exact h1.elim

theorem scalls_of_vc {P : Program} (hP : POk P) (E : Env P) {f : FuncId} {fn : Func} {c : Code} {args : List Value} {H : AH} {Bd : Nat} {post : Value → AH → Nat → Prop} (hf : P.funcs[f]? = some fn) (hb : fn.body = some c) {rs : List ResultVar} (hrs : fn.results.toList = rs) (hent : Enters P f)
    (h : HB H Bd → (∀ v ∈ args, NB Bd v) → vc E Bd c (fnQ P rs H Bd post) (args ++ List.replicate (fn.ntmps - args.length) undef) H Bd) : SCalls P f args H Bd post := by
  exact scalls_of_tr hf hb hrs hent fun hh ha => vc_sound hP c _ _ H Bd (h hh ha)

theorem scalls_pure {P : Program} (hP : POk P) (E : Env P) {f : FuncId} {fn : Func} {c : Code} {args : List Value} {H : AH} {Bd : Nat} {K : Value → AH → Nat → Prop} (r0 : Value) (hK : K r0 H Bd)
    (hf : P.funcs[f]? = some fn) (hb : fn.body = some c) {rs : List ResultVar} (hrs : fn.results.toList = rs) (hent : Enters P f) (hnb : (∀ v ∈ args, NB Bd v) → HB H Bd → NB Bd r0)
    (h : HB H Bd → (∀ v ∈ args, NB Bd v) → vc E Bd c (pureQ P rs H r0) (args ++ List.replicate (fn.ntmps - args.length) undef) H Bd) : SCalls P f args H Bd K := by
  refine scalls_of_tr hf hb hrs hent fun hh ha => (vc_sound hP c _ _ H Bd (h hh ha)).conv fun e s' H' Bd' hle hq => ?_
  have key : PureQ P rs H r0 s' H' Bd' → RetQ P rs H Bd K s' H' Bd' := fun ⟨vs, h1, h2, h3⟩ =>
    ⟨vs, h1, r0, _, H, Bd, h3, fun n b hn (hx : H n = none) => (by rw [hx] at hn; cases hn), h2, Nat.le_refl _, .inr ⟨hnb ha hh, hh, hK⟩⟩
  cases e with
  | normal => exact key hq
  | ret => exact key hq
  | _ => exact hq.elim

end Go.SC
