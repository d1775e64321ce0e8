/- Orders read from a text. -/
import Derived.Test.YthhcemhignihlaaDoorSc12
set_option linter.unusedSimpArgs false
set_option linter.unusedVariables false
namespace Go.SC
open Go
def readL (s : GSignature) (t : ByteArray) : List Int := (cutB t 44).map (symIdx s)
def readOrd (s : GSignature) (t : ByteArray) : GIntsResult := if sigF s ≠ 0 then ⟨sigF s, []⟩ else if ordG s (readL s t) ≠ 0 then ⟨5, []⟩ else ⟨0, readL s t⟩
theorem cutL_sum (c : UInt8) : ∀ l : List UInt8, ((cutL c l).map fun p => p.length + 1).sum = l.length + 1
  | [] => by simp [cutL]
  | b :: l => by
    have ih := cutL_sum c l
    unfold cutL
    split
    · simp only [List.map_cons, List.sum_cons, List.length_nil, List.length_cons]; omega
    · cases h : cutL c l with
      | nil => exact absurd h (cutL_ne c l)
      | cons p ps =>
        rw [h] at ih
        simp only [preL, List.map_cons, List.sum_cons, List.length_append, List.length_cons, List.length_nil] at ih ⊢
        omega
theorem cutB_sum (s : ByteArray) (c : UInt8) : ((cutB s c).map fun p => p.size + 1).sum = s.size + 1 := by
  have h := cutL_sum c s.data.toList
  rw [← cutB_list, List.map_map, size_list] at h
  rw [← h]
  congr 1
theorem sum_le4 {l : List ByteArray} (h : ∀ p ∈ l, p.size ≤ 3) : (l.map fun p => p.size + 1).sum ≤ 4 * l.length := by
  induction l with
  | nil => simp
  | cons a l ih =>
    have h1 := h a (by simp)
    have h2 := ih fun p hp => h p (by simp [hp])
    simp only [List.map_cons, List.sum_cons, List.length_cons]; omega
theorem symL_nm : ∀ {l : List GSymbol}, symL l = 0 → ∀ x ∈ l, x.name.size ≤ 3
  | [], _, x, hx => by simp at hx
  | y :: r, h, x, hx => by
    unfold symL at h
    split at h
    · rename_i hn
      split at h
      · rcases List.mem_cons.1 hx with rfl | hx
        · have := of_decide_eq_true hn; exact this.2.1
        · exact symL_nm h x hx
      · omega
    · omega
theorem sig_names {s : GSignature} (h : sigF s = 0) : s.symbols.length ≤ 6 ∧ ∀ x ∈ s.symbols, x.name.size ≤ 3 := by
  unfold sigF at h
  split at h
  · omega
  · rename_i hl
    refine ⟨by omega, symL_nm ?_⟩
    unfold sigG at h
    split at h
    · rename_i h2; exact absurd h h2
    · rename_i h2; exact Decidable.not_not.1 h2
theorem readL_big {s : GSignature} {t : ByteArray} (hs : sigF s = 0) (ht : t.size > 24) : ordG s (readL s t) ≠ 0 := fun h => by
  obtain ⟨h1, h2⟩ := sig_names hs
  unfold ordG at h
  split at h
  · omega
  · rename_i hl
    split at h
    · omega
    · rename_i ha
      have hl : (readL s t).length = s.symbols.length := Decidable.not_not.1 hl
      have hl2 : (cutB t 44).length ≤ 6 := by
        have : (readL s t).length = (cutB t 44).length := by simp [readL]
        omega
      have hp : ∀ p ∈ cutB t 44, p.size ≤ 3 := fun p hp => by
        have hi : isSym s (symIdx s p) = true := by
          cases hh : isSym s (symIdx s p) with
          | true => rfl
          | false => exact absurd (List.any_eq_true.2 ⟨_, List.mem_map_of_mem hp, by rw [hh]; rfl⟩) ha
        have hi2 : 0 ≤ symIdx s p := (of_decide_eq_true hi).1
        obtain ⟨x, hx, hn⟩ : ∃ x ∈ s.symbols, x.name = p := by
          by_cases hex : ∃ x ∈ s.symbols, x.name = p
          · exact hex
          · have : symIdx s p = -1 := fidx_none fun j hj x hx => by
              simp only [decide_eq_false_iff_not]
              exact fun e => hex ⟨x, List.mem_of_getElem? hx, e⟩
            omega
        rw [← hn]; exact h2 x hx
      have hsum := cutB_sum t 44
      have := sum_le4 hp
      omega
theorem readL_neg {s : GSignature} {t : ByteArray} {i : Nat} (hi : i < (cutB t 44).length) (h : symIdx s (cutB t 44)[i] < 0) : ordG s (readL s t) ≠ 0 := fun h0 => by
  unfold ordG at h0
  split at h0
  · omega
  · split at h0
    · omega
    · rename_i ha
      refine ha (List.any_eq_true.2 ⟨_, List.mem_map_of_mem (List.getElem_mem hi), ?_⟩)
      have : isSym s (symIdx s (cutB t 44)[i]) = false := decide_eq_false (by omega)
      rw [this]; rfl
theorem readL_take {s : GSignature} {t : ByteArray} {i : Nat} (hi : i < (cutB t 44).length) : (readL s t).take (i + 1) = (readL s t).take i ++ [symIdx s (cutB t 44)[i]] := by
  have : i < (readL s t).length := by simpa [readL] using hi
  rw [List.take_succ_eq_append_getElem this]
  simp [readL]
theorem readL_len (s : GSignature) (t : ByteArray) : (readL s t).length = (cutB t 44).length := by simp [readL]
theorem fidx_bd {α : Type} (p : α → Bool) (l : List α) : -1 ≤ fidx p l ∧ fidx p l ≤ l.length := by
  by_cases h : ∃ j, ∃ hj : j < l.length, p l[j] = true ∧ ∀ k (hk : k < j), p (l[k]'(by omega)) = false
  · obtain ⟨j, hj, h1, h2⟩ := h
    have := fidx_hit (p := p) hj (fun k hk x hx => by
      have hk2 : k < l.length := by omega
      rw [List.getElem?_eq_getElem hk2] at hx; cases hx; exact h2 k hk) h1
    omega
  · have hn : ∀ j (hj : j < l.length), p l[j] = false := fun j => by
      induction j using Nat.strongRecOn with
      | ind j ih =>
        intro hj
        cases hp : p l[j] with
        | false => rfl
        | true => exact absurd ⟨j, hj, hp, fun k hk => ih k hk (by omega)⟩ h
    have := fidx_none (p := p) (xs := l) fun j hj x hx => by rw [List.getElem?_eq_getElem hj] at hx; cases hx; exact hn j hj
    omega
theorem readL_rg {s : GSignature} (hs : sigF s = 0) (t : ByteArray) : rg (readL s t) := fun x hx => by
  obtain ⟨p, _, rfl⟩ := List.mem_map.1 hx
  have := fidx_bd (fun x : GSymbol => decide (x.name = p)) s.symbols
  have h6 := (sig_names hs).1
  show R64 (symIdx s p)
  unfold R64 symIdx
  omega
end Go.SC
namespace Go.SC
open Go
theorem readOrd_sm (s : GSignature) {t : ByteArray} (h : t.size ≤ 1048576) : sm (readOrd s t) ∧ (readOrd s t).list.length ≤ 1048577 := by
  have h2 := cutB_len_le t 44
  have h3 := readL_len s t
  unfold readOrd
  split
  · exact ⟨⟨trivial, by simp, by simp⟩, by simp⟩
  · split
    · exact ⟨⟨trivial, by simp, by simp⟩, by simp⟩
    · exact ⟨⟨trivial, (sm_ints _).2 (by show (readL s t).length ≤ _; omega)⟩, by show (readL s t).length ≤ _; omega⟩
end Go.SC
