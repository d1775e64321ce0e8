/- Equality of plain structs, and every binary operation. -/
import Derived.Test.YthhcemhignihlaaDoorScB
import Derived.Laws.StructEq
import Derived.Laws.Pointers
import Derived.WalkSpells
namespace Go.SC
open Go

def undInt (P : Program) (t : TypeId) : Bool := match P.underlying t with | some (.int _) => true | _ => false
def undString (P : Program) (t : TypeId) : Bool := match P.underlying t with | some .string => true | _ => false
theorem undInt_out {P : Program} {t : TypeId} (h : undInt P t = true) : ∃ k, P.underlying t = some (.int k) := by
  unfold undInt at h; split at h
  · rename_i k hk; exact ⟨k, hk⟩
  · cases h
theorem undString_out {P : Program} {t : TypeId} (h : undString P t = true) : P.underlying t = some .string := by
  unfold undString at h; split at h
  · assumption
  · cases h
theorem undBool_out {P : Program} {t : TypeId} (h : undBool P t = true) : P.underlying t = some .bool := by
  unfold undBool at h; split at h
  · assumption
  · cases h

def acell (P : Program) (t : TypeId) : Value → Value → Option Bool
  | .int k a, .int k' b => if k = k' ∧ undInt P t = true then some (a == b) else none
  | .string a, .string b => if undString P t = true then some (a.toList == b.toList) else none
  | .bool a, .bool b => if undBool P t = true then some (a == b) else none
  | _, _ => none

def aeqF (P : Program) (xs ys : Array Value) : List Field → Option Bool
  | [] => some true
  | f :: fs =>
    if f.name ≠ "_" then
      match xs[f.offset]?, ys[f.offset]?, ask P (isAgg f.type) with
      | some a, some b, some false =>
        match acell P f.type a b, aeqF P xs ys fs with
        | some r, some q => some (r && q)
        | _, _ => none
      | _, _, _ => none
    else aeqF P xs ys fs

theorem acell_sound {P : Program} {t : TypeId} {a b : Value} {r : Bool} (h : acell P t a b = some r) (d : Nat) (w : World) :
    (Op.equalIn (d + 1) t a b).run P w = .ok r w ∧ ∀ ι w', (∀ x, VR ι w' a x → x = a) ∧ (∀ x, VR ι w' b x → x = b) := by
  unfold acell at h
  split at h
  · simp only [Option.ite_none_right_eq_some, Option.some.injEq] at h
    obtain ⟨⟨rfl, hu⟩, rfl⟩ := h
    obtain ⟨k', hk⟩ := undInt_out hu
    exact ⟨run_equalIn_int w d t _ k' _ _ hk, fun ι w' => ⟨fun x hx => by cases hx; rfl, fun x hx => by cases hx; rfl⟩⟩
  · simp only [Option.ite_none_right_eq_some, Option.some.injEq] at h
    obtain ⟨hu, rfl⟩ := h
    exact ⟨run_equalIn_string w d t _ _ (undString_out hu), fun ι w' => ⟨fun x hx => by cases hx; rfl, fun x hx => by cases hx; rfl⟩⟩
  · simp only [Option.ite_none_right_eq_some, Option.some.injEq] at h
    obtain ⟨hu, rfl⟩ := h
    exact ⟨run_equalIn_bool' w d t _ _ (undBool_out hu), fun ι w' => ⟨fun x hx => by cases hx; rfl, fun x hx => by cases hx; rfl⟩⟩
  · cases h

theorem part_cell {P : Program} {t : TypeId} {cs : Array Value} {off : Nat} {v : Value} (ha : ask P (isAgg t) = some false) (hv : cs[off]? = some v) (w : World) :
    (part t cs off).run P w = .ok v w := by
  unfold part
  simp only [Sem.run_bind, ask_isAgg ha w, Result.andThen_ok, Bool.false_eq_true, if_false, hv, Sem.run_pure]

theorem aeqF_sound {P : Program} {ι : Ren} {w : World} {xs ys xs' ys' : Array Value} (hx : VR ι w (.agg xs) (.agg xs')) (hy : VR ι w (.agg ys) (.agg ys')) (d : Nat) :
    ∀ (fs : List Field) (r : Bool), aeqF P xs ys fs = some r → (Op.eqFields (d + 1) xs' ys' fs).run P w = .ok r w
  | [], r, h => by cases h; simp [Op.eqFields]
  | f :: fs, r, h => by
    unfold aeqF at h
    unfold Op.eqFields
    split at h
    · rename_i hn
      split at h
      · rename_i a b ha hb hagg
        split at h
        · rename_i r1 q h1 h2
          cases h
          obtain ⟨hc, hp⟩ := acell_sound (P := P) h1 d w
          cases hx with
          | agg hsx hx =>
          cases hy with
          | agg hsy hy =>
          have hax : f.offset < xs.size := (Array.getElem?_eq_some_iff.1 ha).1
          have hby : f.offset < ys.size := (Array.getElem?_eq_some_iff.1 hb).1
          have ha' : xs'[f.offset]? = some a := by
            have hlt : f.offset < xs'.size := hsx ▸ hax
            have := (hp ι w).1 _ (hx f.offset a xs'[f.offset] ha (by simp [hlt]))
            simp [hlt, this]
          have hb' : ys'[f.offset]? = some b := by
            have hlt : f.offset < ys'.size := hsy ▸ hby
            have := (hp ι w).2 _ (hy f.offset b ys'[f.offset] hb (by simp [hlt]))
            simp [hlt, this]
          rw [if_pos hn]
          simp only [Sem.run_bind, part_cell hagg ha' w, part_cell hagg hb' w, hc, Result.andThen_ok, Sem.run_ite, Sem.run_pure]
          cases r1
          · simp
          · simp only [Bool.not_true, Bool.false_eq_true, if_false, Bool.true_and]
            exact aeqF_sound (.agg hsx hx) (.agg hsy hy) d fs q h2
        · cases h
      · cases h
    · rename_i hn
      rw [if_neg hn]
      exact aeqF_sound hx hy d fs r h

def aeqS (P : Program) (t : TypeId) (xs ys : Array Value) : Option Bool :=
  if P.stoodInHeld t = false ∧ P.eqGuardType P.depth t = false then
    match P.underlying t with
    | some (.struct fs) => aeqF P xs ys fs.toList
    | _ => none
  else none

theorem aeqS_sound {P : Program} {ι : Ren} {w : World} {t : TypeId} {xs ys xs' ys' : Array Value} {r : Bool} (hx : VR ι w (.agg xs) (.agg xs')) (hy : VR ι w (.agg ys) (.agg ys')) (h : aeqS P t xs ys = some r) :
    (Op.equalIn 10000 t (.agg xs') (.agg ys')).run P w = .ok r w ∧ P.eqGuardType P.depth t = false := by
  unfold aeqS at h
  split at h
  · rename_i hc
    split at h
    · rename_i fs hf
      have hff : P.fieldsOf t = fs := by simp [Program.fieldsOf, hf]
      refine ⟨?_, hc.2⟩
      rw [run_equalIn_agg w 9999 t xs' ys' (by rw [hff]; exact hf) hc.1, hff]
      exact aeqF_sound hx hy 9998 fs.toList r h
    · cases h
  · cases h

def abinX (P : Program) (op : BinOp) (xt : TypeId) (x y : Value) : Option Value :=
  match x, y with
  | .agg xs, .agg ys =>
    match op with
    | .eql => (aeqS P xt xs ys).map Value.bool
    | .neq => (aeqS P xt xs ys).map fun b => Value.bool (!b)
    | _ => none
  | x, y => abin P op xt x y

theorem eqGuard_other {P : Program} {op : BinOp} {t : TypeId} {x y : Operand} {a b : Value} (h : ∀ xs, a ≠ .agg xs) (h2 : a ≠ .nilIface) (w : World) : (eqGuard op t x y a b).run P w = .ok () w := by
  unfold eqGuard
  cases op <;> simp <;> (cases a <;> simp_all)

theorem undNilS_out {P : Program} {t : TypeId} (h : undNilS P t = true) : ∃ e, P.underlying t = some (.slice e) := by
  unfold undNilS at h; split at h
  · rename_i k hk; exact ⟨k, hk⟩
  · cases h
theorem undNilP_out {P : Program} {t : TypeId} (h : undNilP P t = true) : P.underlying t = some (.pointer (P.pointee t)) := by
  unfold undNilP at h; split at h
  · rename_i k hk; rw [hk, show P.pointee t = k from by simp [Program.pointee, hk]]
  · cases h

theorem anil_sound {P : Program} {ι : Ren} {w : World} {t : TypeId} {x y x' y' : Value} {b : Bool} (hu : undFits P t x = true) (h : anil x y = some b)
    (hx : VR ι w x x') (hy : VR ι w y y') : (∀ xs, x' ≠ .agg xs) ∧ x' ≠ .nilIface ∧ (binOp .eql t x' y').run P w = .ok (.bool b) w ∧ (binOp .neq t x' y').run P w = .ok (.bool (!b)) w := by
  unfold anil at h
  split at h
  · cases h; cases hx; cases hy
    obtain ⟨e, hd⟩ := undNilS_out hu
    exact ⟨by simp, by simp, Lib.run_eql_slice_nil w t e _ _ _ _ _ hd, run_neq_slice_nil_any w t e _ _ _ _ _ hd⟩
  · simp only [Option.ite_none_right_eq_some, Option.some.injEq] at h
    obtain ⟨hl, rfl⟩ := h
    obtain ⟨e, hd⟩ := undNilS_out hu
    cases hx
    cases hy with
    | sl hn hle h0 h1 hA =>
      rcases hA with hA | ⟨B, base, size, _, rfl, _⟩
      · omega
      · exact ⟨by simp, by simp, run_eql_nil_slice w t e _ _ _ _ _ hd, run_neq_nil_slice w t e _ _ _ _ _ hd⟩
  · simp only [Option.ite_none_right_eq_some, Option.some.injEq] at h
    obtain ⟨hl, rfl⟩ := h
    obtain ⟨e, hd⟩ := undNilS_out hu
    cases hy
    cases hx with
    | sl hn hle h0 h1 hA =>
      rcases hA with hA | ⟨B, base, size, _, rfl, _⟩
      · omega
      · exact ⟨by simp, by simp, Lib.run_eql_slice_nil w t e _ _ _ _ _ hd, run_neq_slice_nil_any w t e _ _ _ _ _ hd⟩
  · cases h; cases hx; cases hy
    exact ⟨by simp, by simp, run_eql_pointer_nil w t _ (undNilP_out hu), run_neq_pointer_nil w t _ (undNilP_out hu)⟩
  · cases h; cases hy
    cases hx
    exact ⟨by simp, by simp, run_eql_pointer_nil w t _ (undNilP_out hu), run_neq_pointer_nil w t _ (undNilP_out hu)⟩
  · simp only [Option.ite_none_right_eq_some, Option.some.injEq] at h
    obtain ⟨hl, rfl⟩ := h
    obtain ⟨e, hd⟩ := undNilS_out hu
    cases hx
    cases hy with
    | lst0 => simp at hl
    | lst => exact ⟨by simp, by simp, run_eql_nil_slice w t e _ _ _ _ _ hd, run_neq_nil_slice w t e _ _ _ _ _ hd⟩
  · simp only [Option.ite_none_right_eq_some, Option.some.injEq] at h
    obtain ⟨hl, rfl⟩ := h
    obtain ⟨e, hd⟩ := undNilS_out hu
    cases hy
    cases hx with
    | lst0 => simp at hl
    | lst => exact ⟨by simp, by simp, Lib.run_eql_slice_nil w t e _ _ _ _ _ hd, run_neq_slice_nil_any w t e _ _ _ _ _ hd⟩
  · cases h; cases hy
    cases hx
    exact ⟨by simp, by simp, run_eql_pointer_nil w t _ (undNilP_out hu), run_neq_pointer_nil w t _ (undNilP_out hu)⟩
  · cases h

theorem eqGuard_quiet {P : Program} {op : BinOp} {t : TypeId} {x y : Operand} {a b : Value} (h : op ≠ .eql) (h2 : op ≠ .neq) (w : World) : (eqGuard op t x y a b).run P w = .ok () w := by
  unfold eqGuard
  cases op <;> simp_all

theorem guarded {P : Program} {op : BinOp} {t : TypeId} {x y : Operand} {a b : Value} {w : World} (h : (∃ k n, a = .int k n) ∨ (∃ s, a = .string s) ∨ ∃ c, a = .bool c) :
    (do eqGuard op t x y a b; binOp op t a b : Sem Value).run P w = (binOp op t a b).run P w := by
  rcases h with ⟨k, n, rfl⟩ | ⟨s, rfl⟩ | ⟨c, rfl⟩ <;>
    (rw [Sem.run_bind, eqGuard_other (fun _ h => by cases h) (fun h => by cases h)]; rfl)

theorem abin_sound {P : Program} {ι : Ren} {w : World} {op : BinOp} {xt : TypeId} {x y v x' y' : Value} (xo yo : Operand) (h : abinX P op xt x y = some v) (hx : VR ι w x x') (hy : VR ι w y y') :
    (do eqGuard op xt xo yo x' y'; binOp op xt x' y' : Sem Value).run P w = .ok v w ∧ plainV v = true := by
  unfold abinX at h
  split at h
  · rename_i xs ys
    cases hx with
    | agg hsx hx =>
    cases hy with
    | agg hsy hy =>
    split at h
    · obtain ⟨b, hb, rfl⟩ := Option.map_eq_some_iff.1 h
      obtain ⟨hr, hg⟩ := aeqS_sound (.agg hsx hx) (.agg hsy hy) hb
      simp only [Sem.run_bind, run_eqGuard_agg w .eql xt xo yo _ _ hg, run_eql_struct, hr, Result.andThen_ok]
      exact ⟨trivial, rfl⟩
    · obtain ⟨b, hb, rfl⟩ := Option.map_eq_some_iff.1 h
      obtain ⟨hr, hg⟩ := aeqS_sound (.agg hsx hx) (.agg hsy hy) hb
      simp only [Sem.run_bind, run_eqGuard_agg w .neq xt xo yo _ _ hg, run_neq_struct, hr, Result.andThen_ok]
      exact ⟨trivial, rfl⟩
    · cases h
  · unfold abin at h
    split at h
    · rename_i k a k' b _ _
      cases hx; cases hy
      rw [guarded (.inl ⟨_, _, rfl⟩)]
      by_cases hs : op = .shl ∨ op = .shr
      · rw [if_pos hs] at h
        refine ⟨ashift_sound xt h w, ?_⟩
        unfold ashift at h
        split at h
        · simp only [Option.ite_none_right_eq_some] at h
          rw [chk_sound h.2]; rfl
        · simp only [Option.ite_none_right_eq_some, Option.some.injEq] at h
          rw [← h.2]; rfl
        · cases h
      · rw [if_neg hs] at h
        simp only [Option.ite_none_right_eq_some] at h
        obtain ⟨rfl, h⟩ := h
        refine ⟨aint_sound xt hs h w, ?_⟩
        unfold aint abits at h
        cases op <;> dsimp only at h <;> first
          | (rw [chk_sound h]; rfl)
          | (cases h; done)
          | (cases h; rfl)
          | (simp only [Option.ite_none_right_eq_some] at h; rw [chk_sound h.2]; rfl)
          | (simp only [Option.ite_none_right_eq_some, Option.some.injEq] at h; rw [← h.2]; rfl)
    · cases hx; cases hy
      rw [guarded (.inr (.inl ⟨_, rfl⟩))]
      refine ⟨astr_sound xt h w, ?_⟩
      unfold astr at h
      cases op <;> dsimp only at h <;> first
        | (cases h; done)
        | (rw [← Option.some.inj h]; rfl)
        | (simp only [Option.ite_none_right_eq_some, Option.some.injEq] at h; rw [← h.2]; rfl)
    · cases hx; cases hy
      rw [guarded (.inr (.inr ⟨_, rfl⟩))]
      split at h
      · simp only [Option.ite_none_right_eq_some, Option.some.injEq] at h
        obtain ⟨hu, rfl⟩ := h
        exact ⟨run_eql_bool w xt _ _ (undBool_out hu), rfl⟩
      · simp only [Option.ite_none_right_eq_some, Option.some.injEq] at h
        obtain ⟨hu, rfl⟩ := h
        exact ⟨by rw [run_neq_bool w xt _ _ (undBool_out hu)]; rfl, rfl⟩
      · cases h
    · split at h
      · simp only [Option.ite_none_right_eq_some, Option.map_eq_some_iff] at h
        obtain ⟨hu, b, hb, rfl⟩ := h
        obtain ⟨h1, h2, h3, _⟩ := anil_sound hu hb hx hy
        rw [Sem.run_bind, eqGuard_other h1 h2]
        exact ⟨h3, rfl⟩
      · simp only [Option.ite_none_right_eq_some, Option.map_eq_some_iff] at h
        obtain ⟨hu, b, hb, rfl⟩ := h
        obtain ⟨h1, h2, _, h3⟩ := anil_sound hu hb hx hy
        rw [Sem.run_bind, eqGuard_other h1 h2]
        exact ⟨h3, rfl⟩
      · cases h

end Go.SC
