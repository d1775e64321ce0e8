/- Results in own new memory; own data lent, given, marked. -/
import Derived.Test.YthhcemhignihlaaDoorSc9
set_option linter.unusedSimpArgs false
set_option linter.unusedVariables false
namespace Go.SC
open Go

/-! ### arguments that are own lists, or hold some -/
def mapG (H : AH) : List Value → List Value
  | [] => []
  | v :: l => giveV H v :: mapG H l
def giveA (H : AH) (v : Value) : Value := match v with
  | .agg cs => .agg (mapG H cs.toList).toArray
  | v => giveV H v
def killL (H : AH) : List Value → AH
  | [] => H
  | v :: l => killL (giveH H v) l
def killA (H : AH) (v : Value) : AH := match v with
  | .agg cs => killL H cs.toList
  | v => giveH H v
def ownS (H : AH) (n : Nat) : Prop := ∃ b, H n = some b ∧ b.own = true
theorem giveV_own (H : AH) (v : Value) : Pub H (ownS H) v (giveV H v) := by
  unfold giveV
  split
  · rename_i n k len c
    unfold giveR
    split
    · rename_i b hb
      split
      · rename_i h
        refine .lst (b := b) ⟨b, hb, h.1⟩ hb h.1 (by simp [rowsOf_len]) (by omega) (fun i x hx => ?_) (fun i j r v u h1 h2 h3 => ?_)
        · have hi : i < len := by have := (Array.getElem?_eq_some_iff.1 hx).1; simpa [rowsOf_len] using this
          have := rowsOf_get k len b.cells i hi
          rw [List.getElem?_toArray, this] at hx
          cases hx
          refine ⟨_, rfl, ?_⟩
          have : (i + 1) * k ≤ len * k := Nat.mul_le_mul_right _ hi
          rw [Nat.succ_mul] at this
          simp; omega
        · have hi : i < len := by have := (Array.getElem?_eq_some_iff.1 h1).1; simpa [rowsOf_len] using this
          have h4 := rowsOf_get k len b.cells i hi
          rw [List.getElem?_toArray, h4] at h1
          cases h1
          have hj : j < k := by
            have := (Array.getElem?_eq_some_iff.1 h3).1
            simp at this; omega
          rw [List.getElem?_toArray, List.getElem?_take, if_pos hj, List.getElem?_drop] at h3
          rw [Nat.zero_add, h3] at h2
          cases h2
          exact .same _
      · exact .same _
    · exact .same _
  · exact .same _
theorem mapG_own (H : AH) : ∀ (l : List Value), (mapG H l).length = l.length ∧ ∀ (i : Nat) v u, l[i]? = some v → (mapG H l)[i]? = some u → Pub H (ownS H) v u
  | [] => ⟨rfl, fun i v u h _ => by simp at h⟩
  | w :: l => by
    obtain ⟨h1, h2⟩ := mapG_own H l
    refine ⟨by simp [mapG, h1], fun i v u g1 g2 => ?_⟩
    cases i with
    | zero => simp [mapG] at g1 g2; subst g1; subst g2; exact giveV_own H _
    | succ i => simp only [mapG, List.getElem?_cons_succ] at g1 g2; exact h2 i v u g1 g2
theorem giveA_own (H : AH) (v : Value) : Pub H (ownS H) v (giveA H v) := by
  unfold giveA; split
  · rename_i cs
    obtain ⟨h1, h2⟩ := mapG_own H cs.toList
    refine .agg (by simp [h1]) fun i v u g1 g2 => ?_
    exact h2 i v u (by simpa using g1) (by simpa using g2)
  · exact giveV_own H _
theorem mapA_own (H : AH) (args : List Value) : PubC H (ownS H) args (args.map (giveA H)) := PubC.of _ _ (by simp) fun i v u h1 h2 => by
  rw [List.getElem?_map, h1] at h2
  cases h2
  exact giveA_own H v

/-- All that is not own, and more. -/
def Sees (H H' : AH) : Prop := ∀ n b, H n = some b → b.own = false → H' n = some b
theorem sees_mns (H : AH) : Sees H (mns H) := fun n b h ho => by
  unfold mns
  rw [if_neg]
  · exact h
  · rintro ⟨c, c1, c2⟩
    rw [h] at c1; cases c1; rw [ho] at c2; cases c2
/-- A contract that changes no memory and yields no list. -/
def PureV (W : Trans) : Prop := ∀ args H Bd K, W args H Bd K → ∃ r, VC r ∧ K r H Bd ∧ ∀ (H' : AH) (K' : Value → AH → Nat → Prop), Sees H H' → K' r H' Bd → W args H' Bd K'
def LendA (W : Trans) : Trans := fun args H Bd K => W (args.map (giveA H)) H Bd K
theorem mrg_mns {H : AH} {Bd : Nat} (hb : HB H Bd) : mrg H (mns H) Bd = H := by
  funext n
  unfold mrg
  split
  · rfl
  · rename_i h
    have h1 := hb.fresh n (by omega)
    cases h2 : mns H n with
    | none => exact h1.symm
    | some b => have := mns_le H n b h2; rw [h1] at this; cases this
theorem SCalls.of_hb {P : Program} {f : FuncId} {args : List Value} {H : AH} {Bd : Nat} {K : Value → AH → Nat → Prop} (he : Enters P f) (h : HB H Bd → SCalls P f args H Bd K) : SCalls P f args H Bd K :=
  ⟨he, fun A ι vs w hr hs => (h hr.hb).2 A ι vs w hr hs⟩
theorem mns_none {H : AH} {Bd n : Nat} (hb : HB H Bd) (h : Bd ≤ n) : mns H n = none := by
  cases h2 : mns H n with
  | none => rfl
  | some b => have := mns_le H n b h2; rw [hb.fresh n h] at this; cases this
theorem LendA_ok {P : Program} {f : FuncId} {W : Trans} (h : ∀ args H Bd K, W args H Bd K → SCalls P f args H Bd K) (hp : PureV W) : ∀ args H Bd K, LendA W args H Bd K → SCalls P f args H Bd K := fun args H Bd K hk => by
  obtain ⟨r, h1, h2, h3⟩ := hp _ _ _ _ hk
  refine SCalls.of_hb (h _ _ _ _ hk).1 fun hb => ?_
  refine lend (mapA_own H args) (h _ _ _ _ (h3 _ _ (sees_mns H) ⟨h1, fun n _ => rfl, fun n b hn hx v hv => ?_, ?_⟩))
  · rw [mns_none hb hn] at hx; cases hx
  · rw [mrg_mns hb]; exact h2
/-- All own data among the arguments is given away. -/
def killAll (H : AH) : List Value → AH
  | [] => H
  | v :: l => killAll (killA H v) l
def GiveA (W : Trans) : Trans := fun args H Bd K => W (args.map (giveA H)) (killAll H args) Bd K
/-! Names in data. -/
def nameIn (n : Nat) : Value → Prop
  | .slice (some ⟨m, 0, some _⟩) _ _ => n = m
  | _ => False
def nameA (n : Nat) : Value → Prop
  | .agg cs => ∃ c ∈ cs.toList, nameIn n c
  | v => nameIn n v
theorem giveV_pubN (H : AH) (v : Value) : Pub H (fun n => nameIn n v) v (giveV H v) := by
  have h := give_pub H v
  have e : giveS v = fun n => nameIn n v := by
    funext n
    rcases v with _ | _ | _ | _ | _ | _ | ⟨_ | ⟨m, _ | o, _ | k⟩, _, _⟩ | _ | _ | _ | _ | _ | _ <;> rfl
  rw [← e]; exact h
theorem Pub.monoS {H : AH} {S T : Nat → Prop} {v u : Value} (h : Pub H S v u) (hs : ∀ n, S n → T n) : Pub H T v u := by
  induction h with
  | same v => exact .same v
  | agg hz _ ih => exact .agg hz ih
  | tuple hz _ ih => exact .tuple hz ih
  | empty => exact .empty
  | lst hS hb ho hn hle hr _ ih => exact .lst (hs _ hS) hb ho hn hle hr ih
theorem mapG_pubN (H : AH) : ∀ (l : List Value), (mapG H l).length = l.length ∧ ∀ (i : Nat) v u, l[i]? = some v → (mapG H l)[i]? = some u → Pub H (fun n => ∃ c ∈ l, nameIn n c) v u
  | [] => ⟨rfl, fun i v u h _ => by simp at h⟩
  | w :: l => by
    obtain ⟨h1, h2⟩ := mapG_pubN H l
    refine ⟨by simp [mapG, h1], fun i v u g1 g2 => ?_⟩
    cases i with
    | zero => simp [mapG] at g1 g2; subst g1; subst g2; exact (giveV_pubN H _).monoS fun n hn => ⟨_, by simp, hn⟩
    | succ i => simp only [mapG, List.getElem?_cons_succ] at g1 g2; exact (h2 i v u g1 g2).monoS fun n ⟨c, hc, hn⟩ => ⟨c, by simp [hc], hn⟩
theorem giveA_pubN (H : AH) (v : Value) : Pub H (fun n => nameA n v) v (giveA H v) := by
  cases v with
  | agg cs =>
    obtain ⟨h1, h2⟩ := mapG_pubN H cs.toList
    refine .agg (by simp [h1]) fun i v u g1 g2 => ?_
    exact h2 i v u (by simpa using g1) (by simpa using g2)
  | slice a b c => exact giveV_pubN H (.slice a b c)
  | _ => exact .same _
theorem giveH_name (H : AH) (v : Value) (n : Nat) (h : nameIn n v) : giveH H v n = none := by
  unfold nameIn at h; split at h
  · subst h; exact upd_same _ _ _
  · exact h.elim
theorem giveH_none {H : AH} {n : Nat} (h : H n = none) (v : Value) : giveH H v n = none := by
  cases h2 : giveH H v n with
  | none => rfl
  | some b => have := give_le H v n b h2; rw [h] at this; cases this
theorem killL_none : ∀ (l : List Value) {H : AH} {n : Nat}, H n = none → killL H l n = none
  | [], _, _, h => h
  | v :: l, _, _, h => killL_none l (giveH_none h v)
theorem killL_name : ∀ (l : List Value) {H : AH} {n : Nat}, (∃ c ∈ l, nameIn n c) → killL H l n = none
  | [], _, _, ⟨c, hc, _⟩ => by simp at hc
  | v :: l, H, n, ⟨c, hc, hn⟩ => by
    rcases List.mem_cons.1 hc with rfl | hc
    · exact killL_none l (giveH_name H _ n hn)
    · exact killL_name l ⟨c, hc, hn⟩
theorem killL_le : ∀ (l : List Value) (H : AH), Le (killL H l) H
  | [], H => Le.refl H
  | v :: l, H => (killL_le l _).trans (give_le H v)
theorem killA_le (H : AH) (v : Value) : Le (killA H v) H := by
  unfold killA; split
  · exact killL_le _ H
  · exact give_le H _
theorem killA_name (H : AH) (v : Value) (n : Nat) (h : nameA n v) : killA H v n = none := by
  cases v with
  | agg cs => exact killL_name _ h
  | slice a b c => exact giveH_name H (.slice a b c) n h
  | _ => exact h.elim
theorem killAll_le : ∀ (l : List Value) (H : AH), Le (killAll H l) H
  | [], H => Le.refl H
  | v :: l, H => (killAll_le l _).trans (killA_le H v)
theorem killAll_none : ∀ (l : List Value) {H : AH} {n : Nat}, H n = none → killAll H l n = none
  | [], _, _, h => h
  | v :: l, H, n, h => killAll_none l (by
    cases h2 : killA H v n with
    | none => rfl
    | some b => have := killA_le H v n b h2; rw [h] at this; cases this)
theorem killAll_name : ∀ (l : List Value) {H : AH} {n : Nat}, (∃ c ∈ l, nameA n c) → killAll H l n = none
  | [], _, _, ⟨c, hc, _⟩ => by simp at hc
  | v :: l, H, n, ⟨c, hc, hn⟩ => by
    rcases List.mem_cons.1 hc with rfl | hc
    · exact killAll_none l (killA_name H _ n hn)
    · exact killAll_name l ⟨c, hc, hn⟩
theorem GiveA_ok {P : Program} {f : FuncId} {W : Trans} (h : ∀ args H Bd K, W args H Bd K → SCalls P f args H Bd K) : ∀ args H Bd K, GiveA W args H Bd K → SCalls P f args H Bd K := fun args H Bd K hk => by
  refine give (fun n => ∃ c ∈ args, nameA n c) (PubC.of _ _ (by simp) fun i v u h1 h2 => ?_) (killAll_le args H) (fun n b hb hs => ?_) (h _ _ _ _ hk)
  · rw [List.getElem?_map, h1] at h2
    cases h2
    exact (giveA_pubN H v).monoS fun n hn => ⟨v, List.mem_of_getElem? h1, hn⟩
  · rw [killAll_name args hs] at hb; cases hb
@[go_sem] theorem giveA_agg (H : AH) (l : List Value) : giveA H (.agg l.toArray) = .agg (mapG H l).toArray := (rfl)
@[go_sem] theorem giveA_slice (H : AH) (n k len c : Nat) : giveA H (.slice (some ⟨n, 0, some k⟩) len c) = giveR (H n) k len (.slice (some ⟨n, 0, some k⟩) len c) := (rfl)
@[go_sem] theorem giveA_lst {α : Type} [Enc α] (H : AH) (xs : List α) : giveA H (lst xs) = lst xs := (rfl)
@[go_sem] theorem giveA_int (H : AH) (k : IntKind) (n : Int) : giveA H (.int k n) = .int k n := (rfl)
@[go_sem] theorem giveA_bool (H : AH) (b : Bool) : giveA H (.bool b) = .bool b := (rfl)
@[go_sem] theorem giveA_string (H : AH) (s : ByteArray) : giveA H (.string s) = .string s := (rfl)
@[go_sem] theorem mapG_nil (H : AH) : mapG H [] = [] := (rfl)
@[go_sem] theorem mapG_cons (H : AH) (v : Value) (l : List Value) : mapG H (v :: l) = giveV H v :: mapG H l := (rfl)
@[go_sem] theorem giveV_int (H : AH) (k : IntKind) (n : Int) : giveV H (.int k n) = .int k n := (rfl)
@[go_sem] theorem giveV_bool (H : AH) (b : Bool) : giveV H (.bool b) = .bool b := (rfl)
@[go_sem] theorem giveV_string (H : AH) (s : ByteArray) : giveV H (.string s) = .string s := (rfl)
@[go_sem] theorem killAll_nil (H : AH) : killAll H [] = H := (rfl)
@[go_sem] theorem killAll_cons (H : AH) (v : Value) (l : List Value) : killAll H (v :: l) = killAll (killA H v) l := (rfl)
@[go_sem] theorem killA_agg (H : AH) (l : List Value) : killA H (.agg l.toArray) = killL H l := (rfl)
@[go_sem] theorem killA_slice (H : AH) (n k len c : Nat) : killA H (.slice (some ⟨n, 0, some k⟩) len c) = upd H n none := (rfl)
@[go_sem] theorem killA_lst {α : Type} [Enc α] (H : AH) (xs : List α) : killA H (lst xs) = H := (rfl)
@[go_sem] theorem killA_int (H : AH) (k : IntKind) (n : Int) : killA H (.int k n) = H := (rfl)
@[go_sem] theorem killA_bool (H : AH) (b : Bool) : killA H (.bool b) = H := (rfl)
@[go_sem] theorem killA_string (H : AH) (s : ByteArray) : killA H (.string s) = H := (rfl)
@[go_sem] theorem killL_nil (H : AH) : killL H [] = H := (rfl)
@[go_sem] theorem killL_cons (H : AH) (v : Value) (l : List Value) : killL H (v :: l) = killL (giveH H v) l := (rfl)
@[go_sem] theorem giveH_int (H : AH) (k : IntKind) (n : Int) : giveH H (.int k n) = H := (rfl)
@[go_sem] theorem giveH_bool (H : AH) (b : Bool) : giveH H (.bool b) = H := (rfl)
@[go_sem] theorem giveH_string (H : AH) (s : ByteArray) : giveH H (.string s) = H := (rfl)

/-! ### results in new own blocks -/
/-- A list that is handed back: an own block, or none. -/
def slM (H : AH) (Bd0 : Nat) (seen : List Nat) (cells : List Value) (k l : Nat) (v : Value) (go : List Nat → Prop) : Prop := match v with
  | .slice (some ⟨m, 0, some k'⟩) l' _ => (k' = k ∧ l' = l ∧ Bd0 ≤ m ∧ m ∉ seen ∧ H m = some ⟨cells, true⟩) ∧ go (m :: seen)
  | .slice none 0 0 => (l = 0 ∧ cells = []) ∧ go seen
  | _ => False
/-- Values and the same with their own blocks under the names Bd0 + i, .. -/
def OwF (H : AH) (Bd0 : Nat) : Nat → List (List Value) → List Nat → List Value → List Value → Prop
  | _, L, _, [], [] => L = []
  | i, L, seen, v :: vs, r :: rs => match r with
    | .slice (some ⟨n, 0, some k⟩) l c => match L with
      | cells :: L' => (n = Bd0 + i ∧ c = l + 1) ∧ slM H Bd0 seen cells k l v fun seen' => OwF H Bd0 (i + 1) L' seen' vs rs
      | [] => False
    | r => (v = r ∧ NB Bd0 r) ∧ OwF H Bd0 i L seen vs rs
  | _, _, _, _, _ => False
theorem slM_out {H : AH} {Bd0 : Nat} {seen : List Nat} {cells : List Value} {k l : Nat} {v : Value} {go : List Nat → Prop} (h : slM H Bd0 seen cells k l v go) :
    (∃ m c, v = .slice (some ⟨m, 0, some k⟩) l c ∧ Bd0 ≤ m ∧ m ∉ seen ∧ H m = some ⟨cells, true⟩ ∧ go (m :: seen)) ∨ (v = .slice none 0 0 ∧ l = 0 ∧ cells = [] ∧ go seen) := by
  unfold slM at h
  split at h
  · obtain ⟨⟨rfl, rfl, h1, h2, h3⟩, h4⟩ := h
    exact .inl ⟨_, _, rfl, h1, h2, h3, h4⟩
  · obtain ⟨⟨h1, h2⟩, h3⟩ := h
    exact .inr ⟨rfl, h1, h2, h3⟩
  · exact h.elim
theorem OwF.out {H : AH} {Bd0 : Nat} : ∀ (rs vs : List Value) (i : Nat) (L : List (List Value)) (seen : List Nat), OwF H Bd0 i L seen vs rs →
    ∃ σ : List (Option Nat), σ.length = L.length ∧ rs.length = vs.length ∧ (∀ σ0 : List (Option Nat), σ0.length = i → ∀ (j : Nat) r v, rs[j]? = some r → vs[j]? = some v → RN (σ0 ++ σ) Bd0 r v) ∧
      (∀ q : Nat, σ[q]? = some none → L[q]? = some []) ∧ (∀ (q m : Nat), σ[q]? = some (some m) → Bd0 ≤ m ∧ m ∉ seen ∧ ∃ cells, H m = some ⟨cells, true⟩ ∧ L[q]? = some cells) ∧
      (∀ (i j m : Nat), σ[i]? = some (some m) → σ[j]? = some (some m) → i = j)
  | [], [], i, L, seen, h => by
    have : L = [] := h
    subst this
    exact ⟨[], rfl, rfl, fun _ _ j r v h => by simp at h, fun q h => by simp at h, fun q m h => by simp at h, fun i j m h => by simp at h⟩
  | [], _ :: _, i, L, seen, h => h.elim
  | _ :: _, [], i, L, seen, h => h.elim
  | r :: rs, v :: vs, i, L, seen, h => by
    unfold OwF at h
    split at h
    · rename_i n k l c
      split at h
      · rename_i cells L'
        obtain ⟨⟨rfl, rfl⟩, h⟩ := h
        rcases slM_out h with ⟨m, c, rfl, h1, h2, h3, h4⟩ | ⟨rfl, rfl, rfl, h4⟩
        · obtain ⟨σ, g1, g2, g3, g4, g5, g6⟩ := OwF.out rs vs _ _ _ h4
          refine ⟨some m :: σ, by simp [g1], by simp [g2], fun σ0 hs j r v e1 e2 => ?_, fun q hq => ?_, fun q m' hq => ?_, fun a b m' ha hb => ?_⟩
          · cases j with
            | zero =>
              simp only [List.getElem?_cons_zero, Option.some.injEq] at e1 e2
              subst e1; subst e2
              exact .sl (by rw [List.getElem?_append_right (by omega), hs, Nat.sub_self]; rfl)
            | succ j =>
              have := g3 (σ0 ++ [some m]) (by simp [hs]) j r v (by simpa using e1) (by simpa using e2)
              rwa [List.append_assoc, List.singleton_append] at this
          · cases q with
            | zero => simp at hq
            | succ q => simpa using g4 q (by simpa using hq)
          · cases q with
            | zero => simp only [List.getElem?_cons_zero, Option.some.injEq] at hq; subst hq; exact ⟨h1, h2, _, h3, rfl⟩
            | succ q =>
              obtain ⟨k1, k2, k3⟩ := g5 q m' (by simpa using hq)
              exact ⟨k1, fun hm => k2 (List.mem_cons_of_mem _ hm), by simpa using k3⟩
          · cases a with
            | zero => cases b with
              | zero => rfl
              | succ b =>
                simp only [List.getElem?_cons_zero, Option.some.injEq] at ha; subst ha
                exact absurd List.mem_cons_self (g5 b m (by simpa using hb)).2.1
            | succ a => cases b with
              | zero =>
                simp only [List.getElem?_cons_zero, Option.some.injEq] at hb; subst hb
                exact absurd List.mem_cons_self (g5 a m (by simpa using ha)).2.1
              | succ b => rw [g6 a b m' (by simpa using ha) (by simpa using hb)]
        · obtain ⟨σ, g1, g2, g3, g4, g5, g6⟩ := OwF.out rs vs _ _ _ h4
          refine ⟨none :: σ, by simp [g1], by simp [g2], fun σ0 hs j r v e1 e2 => ?_, fun q hq => ?_, fun q m' hq => ?_, fun a b m' ha hb => ?_⟩
          · cases j with
            | zero =>
              simp only [List.getElem?_cons_zero, Option.some.injEq] at e1 e2
              subst e1; subst e2
              exact .nil (by rw [List.getElem?_append_right (by omega), hs, Nat.sub_self]; rfl)
            | succ j =>
              have := g3 (σ0 ++ [none]) (by simp [hs]) j r v (by simpa using e1) (by simpa using e2)
              rwa [List.append_assoc, List.singleton_append] at this
          · cases q with
            | zero => rfl
            | succ q => simpa using g4 q (by simpa using hq)
          · cases q with
            | zero => simp at hq
            | succ q =>
              obtain ⟨k1, k2, k3⟩ := g5 q m' (by simpa using hq)
              exact ⟨k1, k2, by simpa using k3⟩
          · cases a with
            | zero => simp at ha
            | succ a => cases b with
              | zero => simp at hb
              | succ b => rw [g6 a b m' (by simpa using ha) (by simpa using hb)]
      · exact h.elim
    · obtain ⟨⟨rfl, hnb⟩, h⟩ := h
      obtain ⟨σ, g1, g2, g3, g4, g5, g6⟩ := OwF.out rs vs _ _ _ h
      refine ⟨σ, g1, by simp [g2], fun σ0 hs j r v e1 e2 => ?_, g4, g5, g6⟩
      cases j with
      | zero =>
        simp only [List.getElem?_cons_zero, Option.some.injEq] at e1 e2
        subst e1; subst e2
        exact .same hnb
      | succ j => exact g3 σ0 hs j r v (by simpa using e1) (by simpa using e2)
def parts : Value → List Value
  | .agg cs => cs.toList
  | v => [v]
def shp : Value → Value → Prop
  | .agg _, .agg _ => True
  | .slice _ _ _, .slice _ _ _ => True
  | _, _ => False
def OwnR (H : AH) (Bd0 : Nat) (v r0 : Value) (L : List (List Value)) : Prop := shp v r0 ∧ OwF H Bd0 0 L [] (parts v) (parts r0)
/-- Memory with these own blocks put in behind. -/
def putU : AH → Nat → List (List Value) → AH
  | H, _, [] => H
  | H, Bd, c :: L => putU (upd H Bd (some ⟨c, true⟩)) (Bd + 1) L
theorem putU_at : ∀ (L : List (List Value)) (H : AH) (Bd : Nat), (∀ n, Bd ≤ n → H n = none) → ∀ n, putU H Bd L n = if n < Bd then H n else (L[n - Bd]?).map fun c => ⟨c, true⟩
  | [], H, Bd, hn, n => by
    show H n = _
    split
    · rfl
    · rw [hn n (by omega)]; rfl
  | c :: L, H, Bd, hn, n => by
    show putU (upd H Bd (some ⟨c, true⟩)) (Bd + 1) L n = _
    rw [putU_at L _ _ fun n h => by rw [upd_other _ _ (by omega)]; exact hn n (by omega)]
    by_cases e : n = Bd
    · subst e; rw [if_pos (by omega), if_neg (by omega), upd_same, Nat.sub_self]; rfl
    · split
      · rw [if_pos (by omega), upd_other _ _ e]
      · rename_i h
        rw [if_neg (by omega), show n - Bd = (n - (Bd + 1)) + 1 by omega, List.getElem?_cons_succ]
theorem putU_eq {H : AH} {Bd : Nat} (hb : HB H Bd) (L : List (List Value)) : putU H Bd L = putN H Bd L := funext fun n => putU_at L H Bd hb.fresh n
def OwnQ (P : Program) (rs : List ResultVar) (H0 : AH) (Bd0 : Nat) (r0 : Value) (L : List (List Value)) (s : List Value) (H : AH) (Bd : Nat) : Prop :=
  Yld (aresults P rs s H) fun vs => Le H0 H ∧ OwnR H Bd0 (tupleOf vs) r0 L
def ownQ (P : Program) (rs : List ResultVar) (H0 : AH) (Bd0 : Nat) (r0 : Value) (L : List (List Value)) : APost
  | .normal => OwnQ P rs H0 Bd0 r0 L
  | .ret => OwnQ P rs H0 Bd0 r0 L
  | _ => fun _ _ _ => False
section
variable {P : Program} {s : List Value} {H : AH} {Bd : Nat}
@[go_sem ↓] theorem ownQ_normal (rs : List ResultVar) (H0 : AH) (B0 : Nat) (r0 : Value) (L : List (List Value)) : ownQ P rs H0 B0 r0 L .normal = OwnQ P rs H0 B0 r0 L := (rfl)
@[go_sem ↓] theorem ownQ_ret (rs : List ResultVar) (H0 : AH) (B0 : Nat) (r0 : Value) (L : List (List Value)) : ownQ P rs H0 B0 r0 L .ret = OwnQ P rs H0 B0 r0 L := (rfl)
@[go_sem ↓] theorem OwnQ_eq (rs : List ResultVar) (H0 : AH) (B0 : Nat) (r0 : Value) (L : List (List Value)) : OwnQ P rs H0 B0 r0 L s H Bd = Yld (aresults P rs s H) fun vs => Le H0 H ∧ OwnR H B0 (tupleOf vs) r0 L := (rfl)
@[go_sem] theorem OwnR_agg (B0 : Nat) (a b : List Value) (L : List (List Value)) : OwnR H B0 (.agg a.toArray) (.agg b.toArray) L = OwF H B0 0 L [] a b := by simp [OwnR, shp, parts]
@[go_sem] theorem OwnR_slice (B0 : Nat) (a b : Option Addr) (l l' c c' : Nat) (L : List (List Value)) : OwnR H B0 (.slice a l c) (.slice b l' c') L = OwF H B0 0 L [] [.slice a l c] [.slice b l' c'] := by simp [OwnR, shp, parts]
@[go_sem] theorem OwF_nil (B0 i : Nat) (L : List (List Value)) (seen : List Nat) : OwF H B0 i L seen [] [] = (L = []) := (rfl)
@[go_sem] theorem OwF_int (B0 i : Nat) (L : List (List Value)) (seen : List Nat) (k : IntKind) (n : Int) (v : Value) (vs rs : List Value) : OwF H B0 i L seen (v :: vs) (.int k n :: rs) = (v = .int k n ∧ OwF H B0 i L seen vs rs) := by
  show (((v = .int k n ∧ NB B0 (.int k n)) ∧ _) = _); simp [show NB B0 (.int k n) from .int _ _]
@[go_sem] theorem OwF_bool (B0 i : Nat) (L : List (List Value)) (seen : List Nat) (b : Bool) (v : Value) (vs rs : List Value) : OwF H B0 i L seen (v :: vs) (.bool b :: rs) = (v = .bool b ∧ OwF H B0 i L seen vs rs) := by
  show (((v = .bool b ∧ NB B0 (.bool b)) ∧ _) = _); simp [show NB B0 (.bool b) from .bool _]
@[go_sem] theorem OwF_string (B0 i : Nat) (L : List (List Value)) (seen : List Nat) (b : ByteArray) (v : Value) (vs rs : List Value) : OwF H B0 i L seen (v :: vs) (.string b :: rs) = (v = .string b ∧ OwF H B0 i L seen vs rs) := by
  show (((v = .string b ∧ NB B0 (.string b)) ∧ _) = _); simp [show NB B0 (.string b) from .string _]
@[go_sem] theorem OwF_sl (B0 i : Nat) (cells : List Value) (L : List (List Value)) (seen : List Nat) (n k l c : Nat) (v : Value) (vs rs : List Value) : OwF H B0 i (cells :: L) seen (v :: vs) (.slice (some ⟨n, 0, some k⟩) l c :: rs) = ((n = B0 + i ∧ c = l + 1) ∧ slM H B0 seen cells k l v fun seen' => OwF H B0 (i + 1) L seen' vs rs) := (rfl)
@[go_sem] theorem slM_sl (B0 : Nat) (seen : List Nat) (cells : List Value) (k l m k' l' c : Nat) (go : List Nat → Prop) : slM H B0 seen cells k l (.slice (some ⟨m, 0, some k'⟩) l' c) go = ((k' = k ∧ l' = l ∧ B0 ≤ m ∧ m ∉ seen ∧ H m = some ⟨cells, true⟩) ∧ go (m :: seen)) := (rfl)
@[go_sem] theorem slM_nil (B0 : Nat) (seen : List Nat) (cells : List Value) (k l : Nat) (go : List Nat → Prop) : slM H B0 seen cells k l (.slice none 0 0) go = ((l = 0 ∧ cells = []) ∧ go seen) := (rfl)
end
theorem flat_nb {α : Type} [Enc α] (Bd : Nat) : ∀ (xs : List α), ∀ v ∈ flat xs, NB Bd v := fun xs v h => by
  unfold flat at h
  obtain ⟨x, _, hx⟩ := List.mem_flatMap.1 h
  exact enc_nb x Bd v hx
/-- A function that yields new own blocks of flat data. -/
theorem fn_own {P : Program} (hP : POk P) (E : Env P) (PL : List (Nat × List Nat × List Stp × JT)) {f : FuncId} {fn : Func} {c : Code} {args : List Value} {H : AH} {Bd : Nat} {K : Value → AH → Nat → Prop} (r0 : Value) (L : List (List Value)) (hK : K r0 (putU H Bd L) (Bd + L.length))
    (hf : P.funcs[f]? = some fn) (hb : fn.body = some c) {rs : List ResultVar} (hrs : fn.results.toList = rs) {m : Nat} (hm : fn.ntmps = m) (hm2 : args.length ≤ m) (hent : Enters P f) (hp : plansOK PL c = true) (hnb : ∀ cells ∈ L, ∀ v ∈ cells, NB Bd v)
    (h : HB H Bd → (∀ v ∈ args, NB Bd v) → vq E PL Bd c (ownQ P rs H Bd r0 L) (aS m undef (idx 0 args)) H Bd) : SCalls P f args H Bd K := by
  refine SCalls.of_hb hent fun hH => anew ?_
  rw [putU_eq hH] at hK
  subst hm
  rw [← start_aS args _ hm2] at h
  refine scalls_of_tr hf hb hrs hent fun hh ha => (vq_sound hP PL c _ _ H Bd hp (h hh ha)).conv fun e s' H' Bd' hle hq => ?_
  have key : OwnQ P rs H Bd r0 L s' H' Bd' → RetQ P rs H Bd (fun r H' _ => ∃ σ L r0, Anew H Bd r H' σ L r0 ∧ K r0 (putN H Bd L) (Bd + L.length)) s' H' Bd' := fun ⟨vs, h1, h2, h3, h4⟩ => by
    obtain ⟨σ, g1, g2, g3, g4, g5, g6⟩ := OwF.out _ _ _ _ _ h4
    have hrn : RN σ Bd r0 (tupleOf vs) := by
      revert h3 g2 g3
      generalize tupleOf vs = v
      intro h3 g2 g3
      unfold shp at h3
      split at h3
      · rename_i a b
        refine .agg (by simpa [parts] using g2) fun j r v e1 e2 => ?_
        exact g3 [] rfl j r v (by simpa [parts] using e1) (by simpa [parts] using e2)
      · exact g3 [] rfl 0 _ _ rfl rfl
      · exact h3.elim
    refine ⟨vs, h1, tupleOf vs, fun _ => False, H', Bd', .same _, fun _ _ _ h => h, Le.refl _, hle, .inl ⟨Nat.le_refl _, fun hb2 _ => ⟨σ, L, r0, ⟨g1, h2, hrn, g4, fun i m hm => ?_, g6⟩, hK⟩⟩⟩
    obtain ⟨k1, _, cells, k2, k3⟩ := g5 i m hm
    refine ⟨k1, _, cells, k2, rfl, k3, rfl, fun j v u e1 e2 => ?_⟩
    rw [e1] at e2; cases e2
    exact .same (hnb cells (List.mem_of_getElem? k3) v (List.mem_of_getElem? e1))
  cases e with
  | normal => exact key hq
  | ret => exact key hq
  | _ => exact hq.elim
/-- A contract that makes new own blocks of flat data. -/
def PureO (W : Trans) : Prop := ∀ args H Bd K, W args H Bd K → ∃ r L, VC r ∧ (∀ cells ∈ L, ∀ v ∈ cells, VC v) ∧ K r (putU H Bd L) (Bd + L.length) ∧ ∀ (H' : AH) (K' : Value → AH → Nat → Prop), Sees H H' → K' r (putU H' Bd L) (Bd + L.length) → W args H' Bd K'
def LendO (W : Trans) : Trans := fun args H Bd K => W (args.map (giveA H)) H Bd K
theorem LendO_ok {P : Program} {f : FuncId} {W : Trans} (h : ∀ args H Bd K, W args H Bd K → SCalls P f args H Bd K) (hp : PureO W) : ∀ args H Bd K, LendO W args H Bd K → SCalls P f args H Bd K := fun args H Bd K hk => by
  obtain ⟨r, L, h1, h4, h2, h3⟩ := hp _ _ _ _ hk
  refine SCalls.of_hb (h _ _ _ _ hk).1 fun hb => ?_
  have hf : ∀ n, Bd ≤ n → mns H n = none := fun n hn => mns_none hb hn
  have hat := putU_at L (mns H) Bd hf
  have hat2 := putU_at L H Bd hb.fresh
  refine lend (mapA_own H args) (h _ _ _ _ (h3 _ _ (sees_mns H) ⟨h1, fun n hn => by rw [hat n, if_pos hn], fun n b hn hx v hv => ?_, ?_⟩))
  · rw [hat n, if_neg (by omega)] at hx
    cases hc : L[n - Bd]? with
    | none => rw [hc] at hx; cases hx
    | some c => rw [hc] at hx; cases hx; exact h4 c (List.mem_of_getElem? hc) v hv
  · have : mrg H (putU (mns H) Bd L) Bd = putU H Bd L := by
      funext n
      unfold mrg
      rw [hat2 n]
      split
      · rfl
      · rename_i hn
        rw [hat n, if_neg hn]
    rw [this]; exact h2
theorem flat_vc {α : Type} [Enc α] (hv : ∀ (x : α) v, v ∈ enc x → VC v) (xs : List α) : ∀ v ∈ flat xs, VC v := fun v h => by
  unfold flat at h
  obtain ⟨x, _, hx⟩ := List.mem_flatMap.1 h
  exact hv x v hx
end Go.SC
