/- New blocks and stores keep the relation. -/
import Derived.Test.YthhcemhignihlaaDoorScG
namespace Go.SC
open Go

def ren (ι : Ren) (m : Nat) (l : Loc) : Ren := ⟨fun n => if n = m then some l else ι n, ι.fz, ι.mp⟩
theorem ren_same (ι : Ren) (m : Nat) (l : Loc) : ren ι m l m = some l := by simp [ren]
theorem ren_other (ι : Ren) {m n : Nat} (l : Loc) (h : n ≠ m) : ren ι m l n = ι n := by simp [ren, h]
theorem ext_ren {ι : Ren} {m : Nat} (l : Loc) (h : ι m = none) : Ext ι (ren ι m l) := ⟨fun n x hx => by
  by_cases e : n = m
  · subst e; rw [h] at hx; cases hx
  · rw [ren_other ι l e, hx], FzLe.refl ι⟩

theorem Rel.raise {A : Nat → Prop} {ι : Ren} {H : AH} {Bd Bd' : Nat} {w : World} (h : Rel A ι H Bd w) (hle : Bd ≤ Bd') : Rel A ι H Bd' w :=
  ⟨fun n hn => h.bound n (Nat.le_trans hle hn), h.blk, h.apart, h.newA, h.froz, h.fzlt, h.glob, h.mp⟩

theorem Rel.lt {A : Nat → Prop} {ι : Ren} {H : AH} {Bd : Nat} {w : World} (h : Rel A ι H Bd w) {n B base : Nat} {b : Blk} (hb : H n = some b) (hι : ι n = some (.at B base)) : B < w.heap.size := by
  rcases h.blk n b hb with ⟨hv, _⟩ | ⟨B', base', cs, e, fr, h1, h2, _⟩
  · rw [hι] at hv; cases hv
  · rw [hι] at h1; cases h1
    exact (Array.getElem?_eq_some_iff.1 h2).1

theorem Rel.mapped {A : Nat → Prop} {ι : Ren} {H : AH} {Bd : Nat} {w : World} (h : Rel A ι H Bd w) {n : Nat} {b : Blk} (hb : H n = some b) : ∃ l, ι n = some l := by
  rcases h.blk n b hb with ⟨hv, _⟩ | ⟨B', base', cs, e, fr, h1, _⟩
  · exact ⟨_, hv⟩
  · exact ⟨_, h1⟩

theorem Rel.named {A : Nat → Prop} {ι : Ren} {H : AH} {Bd : Nat} {w : World} (h : Rel A ι H Bd w) {n : Nat} {b : Blk} (hb : H n = some b) : n < Bd := by
  obtain ⟨l, hl⟩ := h.mapped hb
  rcases Nat.lt_or_ge n Bd with hn | hn
  · exact hn
  · rw [h.bound n hn] at hl; cases hl

/-- A new row of the machine's, under a name that names nothing yet. -/
theorem Rel.new {A : Nat → Prop} {ι : Ren} {H : AH} {Bd : Nat} {w : World} (hr : Rel A ι H Bd w) {m : Nat} (hm : ι m = none) (hb : m < Bd) {L : List Value} {cs : Array Value} {e : TypeId} {fr : Nat × Nat}
    (hL : ∀ (i : Nat) v, L[i]? = some v → ∃ v', cs[i]? = some v' ∧ VR ι w v v') (hu : Unfr fr cs.size) :
    Rel A (ren ι m (.at w.heap.size 0)) (upd H m (some ⟨L, true⟩)) Bd (w.alloc (.cells cs e fr)) := by
  have hx := ext_ren (.at w.heap.size 0) hm
  have hw := fro_alloc ι w (.cells cs e fr)
  refine ⟨fun n hn => ?_, fun n b hn => ?_, fun n k b b' B base B' base' hne h1 h2 ho i1 i2 => ?_, fun B hB => hr.newA B (by simp at hB; omega), fun n b B base h1 ho i1 hz => ?_, fun B hB => by have := hr.fzlt B hB; simp; omega, fun n b hn hq => ?_, fun B p hp => ⟨(hr.mp B p hp).1, (hr.mp B p hp).2.alloc _⟩⟩
  · rw [ren_other _ _ (by omega)]; exact hr.bound n hn
  · by_cases e1 : n = m
    · subst e1
      rw [upd_same] at hn
      cases hn
      refine .inr ⟨w.heap.size, 0, cs, e, fr, ren_same _ _ _, alloc_new _ _, fun _ => ⟨hr.newA _ (Nat.le_refl _), hu⟩, fun h => by (cases h), fun i v hv => ?_⟩
      obtain ⟨v', h3, h4⟩ := hL i v hv
      exact ⟨v', by simpa using h3, h4.mono hx hw⟩
    · rw [upd_other H _ e1] at hn
      refine (hr.blk n b hn).mono hx hw fun B base hB => ?_
      exact RowKit.Below.heap_alloc w _ B (hr.lt hn hB)
  · by_cases e1 : n = m
    · subst e1
      rw [ren_same] at i1
      cases i1
      have hk : k ≠ n := fun h => hne h.symm
      rw [ren_other _ _ hk] at i2
      rw [upd_other H _ hk] at h2
      have := hr.lt h2 i2
      omega
    · rw [upd_other H _ e1] at h1
      rw [ren_other _ _ e1] at i1
      by_cases e2 : k = m
      · subst e2
        rw [ren_same] at i2
        cases i2
        have := hr.lt h1 i1
        omega
      · rw [upd_other H _ e2] at h2
        rw [ren_other _ _ e2] at i2
        exact hr.apart n k b b' B base B' base' hne h1 h2 ho i1 i2
  · by_cases e1 : n = m
    · subst e1
      rw [ren_same] at i1
      cases i1
      exact Nat.lt_irrefl _ (hr.fzlt _ hz)
    · rw [upd_other H _ e1] at h1
      rw [ren_other _ _ e1] at i1
      exact hr.froz n b B base h1 ho i1 hz
  · by_cases e1 : n = m
    · subst e1; rw [upd_same] at hn; cases hn; cases hq
    · rw [upd_other H _ e1] at hn; exact ⟨(ren_other _ _ e1).trans (hr.glob n b hn hq).1, (hr.glob n b hn hq).2.mono hw.rows⟩

/-- A name for what has no cells. -/
theorem Rel.void {A : Nat → Prop} {ι : Ren} {H : AH} {Bd : Nat} {w : World} (hr : Rel A ι H Bd w) {m : Nat} (hm : ι m = none) (hb : m < Bd) :
    Rel A (ren ι m .void) (upd H m (some ⟨[], true⟩)) Bd w := by
  have hx := ext_ren (.void) hm
  refine ⟨fun n hn => ?_, fun n b hn => ?_, fun n k b b' B base B' base' hne h1 h2 ho i1 i2 => ?_, hr.newA, fun n b B base h1 ho i1 hz => ?_, hr.fzlt, fun n b hn hq => ?_, hr.mp⟩
  · rw [ren_other _ _ (by omega)]; exact hr.bound n hn
  · by_cases e1 : n = m
    · subst e1
      rw [upd_same] at hn
      cases hn
      exact .inl ⟨ren_same _ _ _, rfl⟩
    · rw [upd_other H _ e1] at hn
      exact (hr.blk n b hn).mono hx (Fro.refl ι w) fun B base hB => rfl
  · by_cases e1 : n = m
    · subst e1
      rw [ren_same] at i1
      cases i1
    · rw [upd_other H _ e1] at h1
      rw [ren_other _ _ e1] at i1
      by_cases e2 : k = m
      · subst e2
        rw [ren_same] at i2
        cases i2
      · rw [upd_other H _ e2] at h2
        rw [ren_other _ _ e2] at i2
        exact hr.apart n k b b' B base B' base' hne h1 h2 ho i1 i2
  · by_cases e1 : n = m
    · subst e1
      rw [ren_same] at i1
      cases i1
    · rw [upd_other H _ e1] at h1
      rw [ren_other _ _ e1] at i1
      exact hr.froz n b B base h1 ho i1 hz
  · by_cases e1 : n = m
    · subst e1; rw [upd_same] at hn; cases hn; cases hq
    · rw [upd_other H _ e1] at hn; exact ⟨(ren_other _ _ e1).trans (hr.glob n b hn hq).1, (hr.glob n b hn hq).2⟩

/-- Forgotten blocks. -/
theorem Rel.sub {A : Nat → Prop} {ι : Ren} {H H' : AH} {Bd : Nat} {w : World} (hr : Rel A ι H Bd w) (h : ∀ n b, H' n = some b → H n = some b) : Rel A ι H' Bd w :=
  ⟨hr.bound, fun n b hn => hr.blk n b (h n b hn), fun n m b b' B base B' base' hne h1 h2 => hr.apart n m b b' B base B' base' hne (h n b h1) (h m b' h2), hr.newA, fun n b B base h1 => hr.froz n b B base (h n b h1), hr.fzlt, fun n b h1 => hr.glob n b (h n b h1), hr.mp⟩

theorem Rel.kill {A : Nat → Prop} {ι : Ren} {H : AH} {Bd : Nat} {w : World} (hr : Rel A ι H Bd w) (m : Nat) : Rel A ι (upd H m none) Bd w :=
  hr.sub fun n b hn => by
    by_cases e : n = m
    · subst e; rw [upd_same] at hn; cases hn
    · rw [upd_other H _ e] at hn; exact hn

/-- A cell of an own block is written. -/
theorem Rel.set {A : Nat → Prop} {ι : Ren} {H : AH} {Bd : Nat} {w : World} (hr : Rel A ι H Bd w) {n off B base : Nat} {b : Blk} {v v' : Value} (hb : H n = some b) (ho : b.own = true) (hι : ι n = some (.at B base))
    (hv : VR ι w v v') : Rel A ι (upd H n (some ⟨b.cells.set off v, true⟩)) Bd (w.setCell ⟨B, base + off, none⟩ v') ∧ A B ∧ ¬ ι.fz B := by
  obtain ⟨B1, base1, cs, e, fr, h1, h2, h3, h4, h5⟩ : ∃ B base cs e fr, ι n = some (.at B base) ∧ w.heap[B]? = some (.cells cs e fr) ∧ (b.own = true → A B ∧ Unfr fr cs.size) ∧ (b.own = false → ¬ A B) ∧
      ∀ i v, b.cells[i]? = some v → ∃ v', cs[base + i]? = some v' ∧ VR ι w v v' := by
    rcases hr.blk n b hb with ⟨hvd, _⟩ | h
    · rw [hι] at hvd; cases hvd
    · exact h
  rw [hι] at h1
  cases h1
  have hnz := hr.froz n b B base hb ho hι
  have hw := fro_setCell w B (base + off) v' hnz
  have hx := Ext.refl ι
  refine ⟨⟨hr.bound, fun k c hk => ?_, fun k m c c' B1 b1 B2 b2 hne g1 g2 go i1 i2 => ?_, fun B' hB' => hr.newA B' (by simpa using hB'), fun k c B1 b1 g1 go i1 => ?_, fun B' hB' => by simpa using hr.fzlt B' hB', fun k c hk hq => ?_, fun B' p hp => ⟨(hr.mp B' p hp).1, (hr.mp B' p hp).2.setCell h2 _ _⟩⟩, (h3 ho).1, hnz⟩
  · by_cases e1 : k = n
    · subst e1
      rw [upd_same] at hk
      cases hk
      refine .inr ⟨B, base, _, e, fr, hι, setCell_same h2 _ _, fun _ => ⟨(h3 ho).1, by simpa using (h3 ho).2⟩, fun h => by (cases h), fun i u hu => ?_⟩
      by_cases e2 : off = i
      · subst e2
        have hlt : off < b.cells.length := by have := (List.getElem?_eq_some_iff.1 hu).1; simpa using this
        rw [List.getElem?_set_self hlt] at hu
        cases hu
        obtain ⟨u', g1, _⟩ := h5 off b.cells[off] (by simp [hlt])
        have hlt' : base + off < cs.size := (Array.getElem?_eq_some_iff.1 g1).1
        exact ⟨v', by rw [Array.getElem?_setIfInBounds_self_of_lt hlt'], hv.mono hx hw⟩
      · rw [List.getElem?_set_ne e2] at hu
        obtain ⟨u', g1, g2⟩ := h5 i u hu
        exact ⟨u', by rw [Array.getElem?_setIfInBounds_ne (by omega)]; exact g1, g2.mono hx hw⟩
    · rw [upd_other H _ e1] at hk
      refine (hr.blk k c hk).mono hx hw fun B' base' hB' => ?_
      exact setCell_other _ _ (hr.apart n k b c B base B' base' (fun h => e1 h.symm) hb hk ho hι hB').symm
  · by_cases e1 : k = n
    · subst e1
      rw [upd_other H _ (fun h => hne h.symm)] at g2
      exact hr.apart k m b c' B1 b1 B2 b2 hne hb g2 ho i1 i2
    · rw [upd_other H _ e1] at g1
      by_cases e2 : m = n
      · subst e2
        exact hr.apart k m c b B1 b1 B2 b2 hne g1 hb go i1 i2
      · rw [upd_other H _ e2] at g2
        exact hr.apart k m c c' B1 b1 B2 b2 hne g1 g2 go i1 i2
  · by_cases e1 : k = n
    · subst e1
      exact hr.froz k b B1 b1 hb ho i1
    · rw [upd_other H _ e1] at g1
      exact hr.froz k c B1 b1 g1 go i1
  · by_cases e1 : k = n
    · subst e1; rw [upd_same] at hk; cases hk; cases hq
    · rw [upd_other H _ e1] at hk; exact ⟨(hr.glob k c hk hq).1, (hr.glob k c hk hq).2.mono hw.rows⟩

def lset (cells : List Value) (off : Nat) : List Value → List Value
  | [] => cells
  | v :: r => lset (cells.set off v) (off + 1) r

/-- A cell's value that may be stored. -/
def cellOK : Value → Bool
  | .agg _ | .tuple _ | .chan none => false
  | _ => true

theorem cellOK_one {ι : Ren} {w : World} {v v' : Value} (h : VR ι w v v') (hc : cellOK v = true) : v'.oneCell' = true := by
  cases h <;> first | rfl | (simp [cellOK] at hc)

theorem upd_upd (H : AH) (n : Nat) (b c : Option Blk) : upd (upd H n b) n c = upd H n c := by
  funext m; simp only [upd]; split <;> rfl

theorem storeCells_run (P : Program) {A : Nat → Prop} {ι : Ren} {Bd B base n : Nat} (o : Nat) :
    ∀ (vs vs' : List Value) (H : AH) (w : World) (b : Blk) (i : Nat), Rel A ι H Bd w → H n = some b → b.own = true → ι n = some (.at B base) → LR ι w vs vs' → vs.all cellOK = true → o + i + vs.length ≤ b.cells.length →
      ∃ w', (storeCells ⟨B, base + o, none⟩ vs' i).run P w = .ok () w' ∧ Rel A ι (upd H n (some ⟨lset b.cells (o + i) vs, true⟩)) Bd w' ∧ Keep A ι w ι w'
  | [], [], H, w, b, i, hr, hb, ho, hι, _, _, _ => by
    refine ⟨w, by simp [storeCells], hr.sub fun m c hm => ?_, Keep.refl A w⟩
    by_cases e : m = n
    · subst e
      rw [upd_same] at hm
      cases hm
      rw [hb]
      obtain ⟨cells, own⟩ := b
      simp only at ho
      subst ho
      rfl
    · rw [upd_other H _ e] at hm; exact hm
  | v :: vs, v' :: vs', H, w, b, i, hr, hb, ho, hι, hl, hc, hle => by
    simp only [List.all_cons, Bool.and_eq_true] at hc
    simp only [List.length_cons] at hle
    have hv : VR ι w v v' := hl.2 0 v v' rfl rfl
    obtain ⟨hr', hA, hnz⟩ := hr.set (off := o + i) hb ho hι hv
    rcases hr.blk n b hb with ⟨hvd, _⟩ | ⟨B1, base1, cs, e, fr, h1, h2, h3, h4, h5⟩
    · rw [hι] at hvd; cases hvd
    rw [hι] at h1
    cases h1
    obtain ⟨u', g1, _⟩ := h5 (o + i) (b.cells[o + i]'(by omega)) (by simp)
    have hlt : base + (o + i) < cs.size := (Array.getElem?_eq_some_iff.1 g1).1
    have hk := Keep.setCell w (base + (o + i)) v' hA hnz
    have hl' : LR ι (w.setCell ⟨B, base + (o + i), none⟩ v') vs vs' := by
      have : LR ι w vs vs' := ⟨by simpa using hl.1, fun j x x' h1 h2 => hl.2 (j + 1) x x' (by simpa using h1) (by simpa using h2)⟩
      exact this.mono (Ext.refl ι) hk.rows
    obtain ⟨w2, r2, q2, k2⟩ := storeCells_run P o vs vs' _ _ ⟨b.cells.set (o + i) v, true⟩ (i + 1) hr' (upd_same _ _ _) rfl hι hl' hc.2 (by simp; omega)
    refine ⟨w2, ?_, ?_, hk.trans k2⟩
    · have hone := cellOK_one hv hc.1
      simp only [storeCells, Sem.run_bind, add_addr, Nat.add_assoc]
      rw [run_store P w _ v' .plain hone]
      simp only [cell_of h2, Array.getElem?_eq_getElem hlt, frozen_of h2 (h3 ho).2 hlt, Bool.false_eq_true, if_false, Result.andThen_ok]
      exact r2
    · rw [upd_upd] at q2
      exact q2
  | [], _ :: _, _, _, _, _, _, _, _, _, hl, _, _ => by have := hl.1; simp at this
  | _ :: _, [], _, _, _, _, _, _, _, _, hl, _, _ => by have := hl.1; simp at this

end Go.SC
