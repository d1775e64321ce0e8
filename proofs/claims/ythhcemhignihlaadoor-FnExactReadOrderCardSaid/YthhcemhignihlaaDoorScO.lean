/- Arguments that are read as data are data of the types here. -/
import Derived.Lib.LaidTab
import Derived.Test.YthhcemhignihlaaDoorScP
import Derived.ChangeArms
import Derived.ChangeStays
import Derived.SizedLaws
import Derived.ChangeSame
import Derived.ChangeOld
import Derived.OpenShut
import Derived.Handed
set_option linter.unusedSimpArgs false
set_option linter.unusedVariables false
namespace Go.SC
open Go

/-- Every block that is there is never written again. -/
def ιw (w : World) : Ren := ⟨fun _ => none, fun B => B < w.heap.size, fun _ => none⟩

class Opn (P : Program) (t : TypeId) (α : Type) [Enc α] [Sz α] : Prop where
  k : P.cellsOf t = Enc.k α
  b : 1 ≤ P.bytesOf t
  op : ∀ {H : Type} (enc0 : TypeId × Value → H) (w : World) (fuel : Nat) (cs : List Value) (x : DataW H × List MemPlace), DataW.trod enc0 P w 0 (fun _ => true) true fuel t cs = some x →
    (x.1.weights P t).all (· ≤ reachBytes) = true → ∃ a : α, LR (ιw w) w (enc a) cs ∧ sm a ∧ rg a

theorem opn_int {P : Program} {t : TypeId} (hu : P.underlying t = some (.int .i64)) (hk : P.cellsOf t = 1) (hb : 1 ≤ P.bytesOf t) : Opn P t Int := by
  refine ⟨hk, hb, fun enc0 w fuel cs x h _ => ?_⟩
  obtain ⟨n, rfl, rfl, hw⟩ := DataW.trod_int hu h
  refine ⟨n, .cons (.int _ _) (.nil _ _), trivial, ?_⟩
  simp [Lit.wf, IntKind.min, IntKind.max, IntKind.signed, IntKind.bits] at hw
  exact hw
theorem opn_byte {P : Program} {t : TypeId} (hu : P.underlying t = some (.int .u8)) (hk : P.cellsOf t = 1) (hb : 1 ≤ P.bytesOf t) : Opn P t UInt8 := by
  refine ⟨hk, hb, fun enc0 w fuel cs x h _ => ?_⟩
  obtain ⟨n, rfl, rfl, hw⟩ := DataW.trod_int hu h
  have hr : 0 ≤ n ∧ n < 256 := by
    simp [Lit.wf, IntKind.min, IntKind.max, IntKind.bits, IntKind.signed] at hw
    omega
  refine ⟨UInt8.ofNat n.toNat, .cons ?_ (.nil _ _), trivial, trivial⟩
  have : ((UInt8.ofNat n.toNat).toNat : Int) = n := by
    simp; omega
  rw [this]
  exact .int _ _
theorem opn_bool {P : Program} {t : TypeId} (hu : P.underlying t = some .bool) (hk : P.cellsOf t = 1) (hb : 1 ≤ P.bytesOf t) : Opn P t Bool := by
  refine ⟨hk, hb, fun enc0 w fuel cs x h _ => ?_⟩
  obtain ⟨n, rfl, rfl⟩ := DataW.trod_bool hu h
  exact ⟨n, .cons (.bool _) (.nil _ _), trivial, trivial⟩
theorem opn_str {P : Program} {t : TypeId} (hu : P.underlying t = some .string) (hk : P.cellsOf t = 1) (hb : 1 ≤ P.bytesOf t) : Opn P t ByteArray := by
  refine ⟨hk, hb, fun enc0 w fuel cs x h hw => ?_⟩
  obtain ⟨s, rfl, rfl, _⟩ := DataW.trod_string hu h
  refine ⟨s, .cons (.string _) (.nil _ _), ?_, trivial⟩
  simp only [DataW.weights, List.all_cons, List.all_nil, Bool.and_true, decide_eq_true_eq, Array.length_toList] at hw
  show s.size ≤ 281474976710656
  have : s.size = s.data.size := rfl
  have : reachBytes ≤ 281474976710656 := by decide
  omega

theorem choose_list {α : Type} (p : Nat → α → Prop) : ∀ n : Nat, (∀ i, i < n → ∃ a, p i a) → ∃ l : List α, l.length = n ∧ ∀ (i : Nat) (a : α), l[i]? = some a → p i a
  | 0, _ => ⟨[], rfl, fun i a h => by simp at h⟩
  | n + 1, h => by
    obtain ⟨l, hl, hp⟩ := choose_list p n fun i hi => h i (Nat.lt_succ_of_lt hi)
    obtain ⟨a, ha⟩ := h n (Nat.lt_succ_self n)
    refine ⟨l ++ [a], by simp [hl], fun i x hx => ?_⟩
    rw [List.getElem?_append] at hx
    split at hx
    · exact hp i x hx
    · rename_i hge
      have : i - l.length = 0 := by
        have := (List.getElem?_eq_some_iff.1 hx).1
        simpa using this
      rw [this] at hx
      simp at hx
      subst hx
      rwa [show i = n by omega]

theorem weightsAll_mem {H : Type} {P : Program} {e : TypeId} : ∀ (l : List (DataW H)) (d : DataW H), d ∈ l → (DataW.weightsAll P e l).all (· ≤ reachBytes) = true → (d.weights P e).all (· ≤ reachBytes) = true
  | [], d, h, _ => by cases h
  | x :: xs, d, h, hw => by
    simp only [DataW.weightsAll, List.all_append, Bool.and_eq_true] at hw
    rcases List.mem_cons.1 h with rfl | h
    · exact hw.1
    · exact weightsAll_mem xs d h hw.2

theorem opn_list {P : Program} {t e : TypeId} {α : Type} [Enc α] [Sz α] (he : Opn P e α) (hu : P.underlying t = some (.slice e)) (hk : P.cellsOf t = 1) (hb : 1 ≤ P.bytesOf t) : Opn P t (List α) := by
  refine ⟨hk, hb, fun {H} enc0 w fuel cs x h hw => ?_⟩
  rcases DataW.trod_slice hu h with ⟨rfl, rfl⟩ | ⟨a, len, cap, elems, rest, n, rfl, rfl, rfl, _, hlc, _, hel, hget, hrest, _⟩
  · exact ⟨[], .cons .lst0 (.nil _ _), ⟨by simp, by simp⟩, by simp [rg, Sz.r]⟩
  · simp only [DataW.weights, hu, List.all_cons, List.all_append, Bool.and_eq_true, decide_eq_true_eq, List.length_map] at hw
    obtain ⟨hw1, hw2, hw3⟩ := hw
    have hb1 := he.b
    have hlen : elems.length ≤ 281474976710656 := by
      have : elems.length * 1 ≤ (elems.length + rest.length) * P.bytesOf e := Nat.mul_le_mul (by omega) hb1
      have : reachBytes ≤ 281474976710656 := by decide
      omega
    have hstep : ∀ i, i < len → ∃ a0 : α, ∃ csi, w.cells? 0 (a.add (i * P.cellsOf e)) (P.cellsOf e) = some csi ∧ LR (ιw w) w (enc a0) csi ∧ sm a0 ∧ rg a0 := fun i hi => by
      have h1 := hget i hi
      have hlt : i < elems.length := by omega
      rw [List.getElem?_eq_getElem hlt] at h1
      obtain ⟨csi, h2, h3⟩ := Option.bind_eq_some_iff.1 h1
      obtain ⟨a0, q1, q2⟩ := he.op enc0 w n csi _ h3 (weightsAll_mem _ _ (List.mem_map_of_mem (List.getElem_mem hlt)) hw2)
      exact ⟨a0, csi, h2, q1, q2⟩
    obtain ⟨xs, hxl, hx⟩ := choose_list _ len hstep
    refine ⟨xs, .cons ?_ (.nil _ _), ⟨by omega, fun y hy => ?_⟩, fun y hy => ?_⟩
    · rcases Nat.eq_zero_or_pos len with hz | hp
      · subst hz
        obtain rfl := List.eq_nil_of_length_eq_zero hxl
        exact .lst0
      · obtain ⟨cs0, hc0, hl0, _⟩ := hx 0 (xs[0]'(by omega)) (by simp [hxl, hp])
        obtain ⟨_, hcl, hcg⟩ := World.cells?_some hc0
        have hkpos : 0 < P.cellsOf e := by rw [he.k]; exact Enc.pos
        have hg0 := hcg 0 hkpos
        rw [List.getElem?_eq_getElem (by omega)] at hg0
        simp only [Nat.zero_mul] at hg0
        have e0 : ∀ a : Addr, a.add 0 = a := fun a => by unfold Addr.add; rfl
        rw [e0, e0] at hg0
        obtain ⟨B, base, sp⟩ := a
        have hsp : sp = none := World.cell?_spot hg0
        subst hsp
        obtain ⟨cs, e1, fr, hB⟩ : ∃ cs e1 fr, w.heap[B]? = some (.cells cs e1 fr) := by
          unfold World.cell? at hg0
          split at hg0
          · rename_i cs e1 fr hh
            exact ⟨_, _, _, hh⟩
          · cases hg0
        have hcell : ∀ i, i < cap → ∃ csi, w.cells? 0 (Addr.add ⟨B, base, none⟩ (i * P.cellsOf e)) (P.cellsOf e) = some csi := fun i hi => by
          rcases Nat.lt_or_ge i len with h1 | h1
          · obtain ⟨_, csi, h2, _⟩ := hstep i h1; exact ⟨csi, h2⟩
          · obtain ⟨hr1, hr2⟩ := hrest rfl
            have h2 := hr2 (i - len) (by omega)
            rw [List.getElem?_eq_getElem (by omega), show len + (i - len) = i by omega] at h2
            obtain ⟨csi, h3, _⟩ := Option.bind_eq_some_iff.1 h2
            exact ⟨csi, h3⟩
        have hat : ∀ i csi, w.cells? 0 (Addr.add ⟨B, base, none⟩ (i * P.cellsOf e)) (P.cellsOf e) = some csi → csi.length = P.cellsOf e ∧ ∀ j, j < P.cellsOf e → cs[base + i * P.cellsOf e + j]? = csi[j]? := fun i csi hi => by
          obtain ⟨_, h1, h2⟩ := World.cells?_some hi
          refine ⟨h1, fun j hj => ?_⟩
          have := h2 j hj
          rw [add_addr, add_addr, cell_of hB] at this
          exact this
        have hsz : base + cap * P.cellsOf e ≤ cs.size := by
          obtain ⟨csi, hi⟩ := hcell (cap - 1) (by omega)
          obtain ⟨h1, h2⟩ := hat _ _ hi
          have h3 := h2 (P.cellsOf e - 1) (by omega)
          rw [List.getElem?_eq_getElem (by omega)] at h3
          have h4 := (Array.getElem?_eq_some_iff.1 h3).1
          have h5 : (cap - 1) * P.cellsOf e + P.cellsOf e = cap * P.cellsOf e := by
            rw [← Nat.succ_mul]; congr 1; omega
          omega
        have hlst := VR.lst (ι := ιw w) (w := w) (k := Enc.k α) (rows := ((xs.map enc).map fun r => Value.agg r.toArray).toArray) (base := base) (c' := cap) (B := B) (cs := cs) (e := e1) (fr := fr)
          (by show B < w.heap.size; exact (Array.getElem?_eq_some_iff.1 hB).1) hB (by simp; omega) (by rw [← he.k]; exact hsz) (fun i x hi => by
            simp only [List.getElem?_toArray, List.getElem?_map] at hi
            cases hq : xs[i]? with
            | none => rw [hq] at hi; cases hi
            | some y =>
              rw [hq] at hi
              simp only [Option.map_some, Option.some.injEq] at hi
              exact ⟨_, hi.symm, by simp [enc_len]⟩) (fun i j r v v' h1 h2 h3 => by
            simp only [List.getElem?_toArray, List.getElem?_map] at h1
            cases hq : xs[i]? with
            | none => rw [hq] at h1; cases h1
            | some y =>
              rw [hq] at h1
              simp only [Option.map_some, Option.some.injEq, Value.agg.injEq] at h1
              subst h1
              obtain ⟨csi, q1, q2, _⟩ := hx i y hq
              obtain ⟨g1, g2⟩ := hat i csi q1
              have hj : j < (enc y).length := by
                have := (Array.getElem?_eq_some_iff.1 h2).1; simpa using this
              rw [enc_len, ← he.k] at hj
              have g3 := g2 j hj
              rw [he.k] at g3
              rw [g3] at h3
              exact q2.2 j v v' (by simpa using h2) h3)
        have hs : ((xs.map enc).map fun r => Value.agg r.toArray).toArray.size = len := by simp [hxl]
        rw [hs] at hlst
        exact hlst
    · obtain ⟨i, hi, rfl⟩ := List.getElem_of_mem hy
      obtain ⟨_, _, _, q, _⟩ := hx i xs[i] (by simp [hi])
      exact q
    · obtain ⟨i, hi, rfl⟩ := List.getElem_of_mem hy
      obtain ⟨_, _, _, _, q⟩ := hx i xs[i] (by simp [hi])
      exact q

/-- Fields, one behind the other, as nested pairs. -/
structure OpnL (P : Program) (fs : List Field) (o : Nat) (β : Type) [Enc β] [Sz β] : Prop where
  op : ∀ {H : Type} (enc0 : TypeId × Value → H) (w : World) (n : Nat) (cs : List Value) (xs : List (DataW H × List MemPlace)), xs.length = fs.length →
    (∀ (i : Nat) (f : Field), fs[i]? = some f → DataW.trod enc0 P w 0 (fun _ => true) true n f.type ((cs.drop f.offset).take (P.cellsOf f.type)) = xs[i]?) →
    (DataW.weightsEach P (fs.map (·.type)) (xs.map (·.1))).all (· ≤ reachBytes) = true → ∃ y : β, LR (ιw w) w (enc y) ((cs.drop o).take (Enc.k β)) ∧ sm y ∧ rg y
theorem OpnL.one {P : Program} {f : Field} {o : Nat} {α : Type} [Enc α] [Sz α] (h : Opn P f.type α) (ho : f.offset = o) : OpnL P [f] o α := by
  refine ⟨fun enc0 w n cs xs hl hx hw => ?_⟩
  match xs, hl with
  | [x], _ =>
    have := hx 0 f rfl
    simp only [List.map_cons, List.map_nil, DataW.weightsEach, List.append_nil] at hw
    rw [← ho, ← h.k]
    exact h.op enc0 w n _ x this hw
theorem OpnL.cons {P : Program} {f : Field} {fs : List Field} {o o' : Nat} {α β : Type} [Enc α] [Sz α] [Enc β] [Sz β] (h : Opn P f.type α) (ho : f.offset = o) (ho' : o' = o + Enc.k α) (hs : OpnL P fs o' β) : OpnL P (f :: fs) o (α × β) := by
  refine ⟨fun enc0 w n cs xs hl hx hw => ?_⟩
  match xs, hl with
  | x :: xs, hl =>
    have h0 := hx 0 f rfl
    simp only [List.map_cons, DataW.weightsEach, List.all_append, Bool.and_eq_true] at hw
    obtain ⟨a, q1, q2, q3⟩ := h.op enc0 w n _ x h0 hw.1
    obtain ⟨b, p1, p2, p3⟩ := hs.op enc0 w n cs xs (by simpa using hl) (fun i g hg => hx (i + 1) g hg) hw.2
    refine ⟨(a, b), ?_, ⟨q2, p2⟩, ⟨q3, p3⟩⟩
    rw [ho, h.k] at q1
    have : (cs.drop o).take (Enc.k (α × β)) = (cs.drop o).take (Enc.k α) ++ (cs.drop o').take (Enc.k β) := by
      show (cs.drop o).take (Enc.k α + Enc.k β) = _
      rw [List.take_add, List.drop_drop, ho']
    rw [this]
    exact q1.append p1
theorem opn_struct {P : Program} {t : TypeId} {fs : Array Field} {α β : Type} [Enc α] [Sz α] [Enc β] [Sz β] (f : α → β) (g : β → α) (hfg : ∀ y, f (g y) = y) (henc : ∀ x : α, enc x = enc (f x)) (hsm : ∀ x : α, sm (f x) → sm x) (hrg : ∀ x : α, rg (f x) → rg x)
    (hu : P.underlying t = some (.struct fs)) (hk : P.cellsOf t = Enc.k α) (hk' : Enc.k α = Enc.k β) (hb : 1 ≤ P.bytesOf t) (h : OpnL P fs.toList 0 β) : Opn P t α := by
  refine ⟨hk, hb, fun enc0 w fuel cs x hx hw => ?_⟩
  obtain ⟨xs, n, _, rfl, hl, hxl, hg⟩ := DataW.trod_struct hu hx
  simp only [DataW.weights, hu] at hw
  obtain ⟨y, q1, q2, q3⟩ := h.op enc0 w n cs xs (by simpa using hxl) (fun i f hf => hg i f (by simpa using hf)) hw
  refine ⟨g y, ?_, hsm _ (by rw [hfg]; exact q2), hrg _ (by rw [hfg]; exact q3)⟩
  rw [henc, hfg]
  rw [List.drop_zero, List.take_of_length_le (by rw [hl, hk, hk']; exact Nat.le_refl _)] at q1
  exact q1

/-! ### a law, called -/
/-- The world that a law begins in: what came in is never written; the program's tables lie in their own blocks. -/
def ιg (w : World) (G : Nat) : Ren := ⟨fun n => if n < G then some (.at n 0) else none, fun B => B < w.heap.size, fun _ => none⟩
theorem law_calls_g {P : Program} {f : FuncId} {vals : List Value} {H0 : AH} {G : Nat} (h : SCalls P f vals H0 G (fun r _ _ => r = .bool true)) (w : World) (args : Array Value) (hv : SR (ιw w) w vals args)
    (hg : ∀ n b, H0 n = some b → n < G ∧ b.own = false ∧ ∃ cs e fr, w.heap[n]? = some (.cells cs e fr) ∧ cs.size = b.cells.length ∧ ∀ i v, b.cells[i]? = some v → ∃ v', cs[0 + i]? = some v' ∧ VR (ιw w) w v v') :
    Calls P f args w fun e w' => e = .returned (.bool true) ∧ (∀ B : Nat, B < w.heap.size → w'.heap[B]? = w.heap[B]?) ∧ w'.os = w.os ∧ w'.output = w.output := by
  have hx : Ext (ιw w) (ιg w G) := ⟨fun _ _ h => (by cases h), fun _ h => h, fun _ _ h => h⟩
  have hr : Rel (fun B => w.heap.size ≤ B) (ιg w G) H0 G w := by
    refine ⟨fun n hn => if_neg (by omega), fun n b hn => ?_, fun n _ b _ _ _ _ _ _ h1 _ ho => ?_, fun _ h => h, fun n b _ _ h1 ho => ?_, fun _ h => h, fun n b hn _ => ?_, fun _ _ h => (by cases h)⟩
    · obtain ⟨g1, g2, cs, e, fr, g3, g4, g5⟩ := hg n b hn
      refine .inr ⟨n, 0, cs, e, fr, if_pos g1, g3, fun ho => (by rw [g2] at ho; cases ho), fun _ hA => ?_, fun i v hi => ?_⟩
      · have := (Array.getElem?_eq_some_iff.1 g3).1
        exact absurd this (Nat.not_lt.2 hA)
      · obtain ⟨v', k1, k2⟩ := g5 i v hi
        exact ⟨v', k1, k2.mono hx (Fro.refl _ w)⟩
    · have := (hg n b h1).2.1; rw [ho] at this; cases this
    · have := (hg n b h1).2.1; rw [ho] at this; cases this
    · obtain ⟨g1, g2, cs, e, fr, g3, g4, g5⟩ := hg n b hn
      exact ⟨if_pos g1, cs, e, fr, g3, g4⟩
  refine (h.2 _ (ιg w G) args w hr (hv.mono hx (Fro.refl _ w))).mono fun e w' ⟨v, r, ι', H', Bd', he, hp, _, _, hvr, hk, _, _⟩ => ?_
  subst hp
  cases hvr
  exact ⟨he, fun B hB => hk.block B hB (Nat.not_le.2 hB), hk.os, hk.output⟩
theorem law_calls {P : Program} {f : FuncId} {vals : List Value} (h : SCalls P f vals (fun _ => none) 0 (fun r _ _ => r = .bool true)) (w : World) (args : Array Value) (hv : SR (ιw w) w vals args) :
    Calls P f args w fun e w' => e = .returned (.bool true) ∧ (∀ B : Nat, B < w.heap.size → w'.heap[B]? = w.heap[B]?) ∧ w'.os = w.os ∧ w'.output = w.output :=
  law_calls_g h w args hv fun _ _ h => by cases h
/-- A table of numbers, as it is laid. -/
theorem tab_cells {P : Program} {w : World} {name : String} {k : IntKind} {zs : List Int} {g : Nat} (h : Lib.TabIs P w name k zs) (hg : P.globalNamed name = some g) :
    ∃ cs e fr, w.heap[g]? = some (.cells cs e fr) ∧ cs.size = (zs.map (Value.int k)).length ∧ ∀ (i : Nat) v, (zs.map (Value.int k))[i]? = some v → ∃ v', cs[0 + i]? = some v' ∧ VR (ιw w) w v v' := by
  unfold Lib.TabIs World.var? at h
  rw [hg] at h
  simp only [Option.bind_some] at h
  split at h
  · rename_i cs e fr hB
    cases h
    refine ⟨_, e, fr, hB, by simp, fun i v hv => ⟨v, by rw [Nat.zero_add, List.getElem?_toArray]; exact hv, ?_⟩⟩
    rw [List.getElem?_map] at hv
    cases hz : zs[i]? with
    | none => rw [hz] at hv; cases hv
    | some z => rw [hz] at hv; cases hv; exact .int _ _
  · cases h

theorem kept_same {w w' : World} (h : ∀ B : Nat, B < w.heap.size → w'.heap[B]? = w.heap[B]?) (ho : w'.os = w.os) (hp : w'.output = w.output) (may : MemPlace → Prop) : w.keptBut w' may := by
  refine ⟨ho, hp, fun i hi => ?_⟩
  rw [h i hi]
  cases hx : w.heap[i]? with
  | none => rfl
  | some o => cases o <;> first | exact ⟨rfl, rfl, rfl, fun _ _ => rfl⟩ | exact .inr ⟨rfl, rfl⟩ | rfl

theorem trodAll_stays {H : Type} {enc0 : TypeId × Value → H} {P : Program} {w w' : World} (K : Kids P (· < P.types.size)) (hsz : ∀ {t e : TypeId}, t < P.types.size → P.underlying t = some (.slice e) → 0 < P.cellsOf e)
    (hh : ∀ B : Nat, B < w.heap.size → w'.heap[B]? = w.heap[B]?) {sp : Nat → Bool} (hs : ∀ B, B < w.heap.size → sp B = true) :
    ∀ {ts : List TypeId} {vs : List Value} {ds : List (DataW H)} {p : List MemPlace}, (∀ t ∈ ts, t < P.types.size) → DataW.TrodAll enc0 P w 0 (fun _ => true) true ts vs ds p → DataW.TrodAll enc0 P w' 0 sp true ts vs ds p
  | [], [], [], _, _, h => h
  | t :: ts, v :: vs, d :: ds, ps, ht, ⟨p, q, ⟨fuel, h1⟩, h2, e⟩ => by
    refine ⟨p, q, ⟨fuel, DataW.trod_stays K hsz (fun h => by cases h) (ht t (by simp)) h1 (fun x hx => ?_) (fun x hx => hs _ ?_)⟩, trodAll_stays K hsz hh hs (fun t h => ht t (by simp [h])) h2, e⟩
    · have hb := DataW.trod_lt _ _ _ _ h1 x hx
      cases x with
      | cell b off =>
        show w'.cell? _ = w.cell? _
        unfold World.cell?
        rw [hh b hb]
      | map b => exact hh b hb
    · exact DataW.trod_lt _ _ _ _ h1 x hx

theorem vr_one {ι : Ren} {w : World} {u v : Value} (h : LR ι w [u] v.cells.toList) (hv : ∀ cs, v ≠ .agg cs) : VR ι w u v := by
  have hc : v.cells = #[v] := by cases v <;> first | rfl | exact absurd rfl (hv _)
  rw [hc] at h
  exact h.2 0 u v rfl rfl
theorem vr_slice {P : Program} {ι : Ren} {w : World} {u v : Value} {r : Reach} {base : Nat} {t e : TypeId} (ht : P.underlying t = some (.slice e)) (hk : Value.okWide P w r base t v) (h : LR ι w [u] v.cells.toList) : VR ι w u v := by
  obtain ⟨a, l, c, rfl⟩ := WideShapes.okWide_slice ht hk
  exact vr_one h fun cs => by simp
theorem vr_int {P : Program} {ι : Ren} {w : World} {u v : Value} {r : Reach} {base : Nat} {t : TypeId} {k : IntKind} (ht : P.underlying t = some (.int k)) (hk : Value.okWide P w r base t v) (h : LR ι w [u] v.cells.toList) : VR ι w u v := by
  obtain ⟨n, rfl⟩ := WideShapes.okWide_int ht hk
  exact vr_one h fun cs => by simp
theorem vr_bool {P : Program} {ι : Ren} {w : World} {u v : Value} {r : Reach} {base : Nat} {t : TypeId} (ht : P.underlying t = some .bool) (hk : Value.okWide P w r base t v) (h : LR ι w [u] v.cells.toList) : VR ι w u v := by
  obtain ⟨n, rfl⟩ := WideShapes.okWide_bool ht hk
  exact vr_one h fun cs => by simp
theorem vr_string {P : Program} {ι : Ren} {w : World} {u v : Value} {r : Reach} {base : Nat} {t : TypeId} (ht : P.underlying t = some .string) (hk : Value.okWide P w r base t v) (h : LR ι w [u] v.cells.toList) : VR ι w u v := by
  obtain ⟨n, rfl⟩ := WideShapes.okWide_string ht hk
  exact vr_one h fun cs => by simp
theorem vr_struct {P : Program} {ι : Ren} {w : World} {l : List Value} {v : Value} {r : Reach} {base : Nat} {t : TypeId} {fs : Array Field} (ht : P.underlying t = some (.struct fs)) (hk : Value.okWide P w r base t v) (h : LR ι w l v.cells.toList) : VR ι w (.agg l.toArray) v := by
  obtain ⟨cs, rfl, _⟩ := WideShapes.okWide_struct ht hk
  exact h.agg
theorem sr_cons {ι : Ren} {w : World} {u v : Value} {us vs : List Value} (h : VR ι w u v) (hs : SR ι w us vs.toArray) : SR ι w (u :: us) (v :: vs).toArray := by
  refine ⟨by have := hs.1; simp at this ⊢; omega, fun i x y h1 h2 => ?_⟩
  cases i with
  | zero => simp at h1 h2; subst h1; subst h2; exact h
  | succ i => exact hs.2 i x y (by simpa using h1) (by simpa using h2)
theorem sr_nil {ι : Ren} {w : World} : SR ι w [] (#[] : Array Value) := ⟨rfl, fun i x y h1 _ => by simp at h1⟩

/-- The lifting of a contract that asks of the world what is laid and how it is shaped. -/
theorem handed_and_shaped {H : Type} {enc : TypeId × Value → H} {a : Assume} {C : Checked} {os : Os} {f : FuncId} {fn : Func} {s : ChangeSpec} {conds : List PathCond} {apart fresh handsOn again : Bool} {X : World → Array Value → Prop}
    (hX : ∀ (w w' : World) (args : Array Value), w.heap = w'.heap → X w args → X w' args)
    (own : ownKnob C.prog.godebug = none) (started : os.Started) (noInit : C.prog.inits.idxOf? f = none) (hfn : C.prog.funcs[f]? = some fn)
    (witness : ∃ (w : World) (tape : Tape) (i : Input), w.os = os ∧ (w.forCall tape i).Shaped C.prog ∧ i.vars = [] ∧ Input.okWide C.prog (w.forCall tape i) .any w.heap.size f i ∧
      ((s.pre enc C.prog fn conds apart (w.forCall tape i).memory i.args ∧ X (w.forCall tape i).memory i.args) ∧ sizedMet enc C.prog fn (OpenSpec.ofChange s) apart (w.forCall tape i).memory i.args) ∧ a.holds C.prog (lone (Frame.enter C.prog f i.args .normal) [] (w.forCall tape i)))
    (contract : ∀ (W : World) (base : Nat) (args : Array Value) (ds gs : List (DataW H)) (before : List MemPlace),
      (∀ (j : Nat) t v, fn.params[j]? = some t → args[j]? = some v → Value.okWide C.prog W .any base t v) →
      DataW.Whole enc C.prog fn.params.toList s.vars apart W args.toList ds gs before →
      conds.all (PathCond.test C.prog ⟨fn.params.toList, ds, s.plain.varTypes C.prog, gs⟩) = true →
      (DataW.weightsEach C.prog (fn.params.toList ++ s.plain.varTypes C.prog) (ds ++ gs)).all (· ≤ reachBytes) = true → X W args → W.ShapedOpen C.prog →
      Calls C.prog f args W fun e W' => ∃ v, e = .returned v ∧ s.post enc C.prog fn apart fresh handsOn again W args v W') :
    ReturnsInHanded a C os f .any (fun w args => (s.pre enc C.prog fn conds apart w args ∧ X w args) ∧ sizedMet enc C.prog fn (OpenSpec.ofChange s) apart w args) (s.post enc C.prog fn apart fresh handsOn again) := by
  refine returnsInHanded_of_calls own started noInit witness fun w tape i _ hsh _ hok hpre _ => ?_
  obtain ⟨_, _, _, fn', hfn', _, _, _, _, hval⟩ := hok
  obtain rfl : fn' = fn := Option.some.inj (hfn'.symm.trans hfn)
  obtain ⟨⟨⟨ds, gs, before, hw, hc⟩, hx⟩, hz⟩ := hpre
  refine (contract (w.forCall tape i) w.heap.size i.args ds gs before hval (DataW.Whole.of_heap (w' := w.forCall tape i) (by rfl) hw) hc (hz.weights hw) (hX _ _ _ (by rfl) hx) hsh).mono fun e W' ⟨v, he, hp⟩ => ?_
  subst he
  exact ChangeSpec.post_blind hp
end Go.SC
