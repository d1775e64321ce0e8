/- The program's StepsFor and the reference's StepsFor return the same result: (left + n - 1) / n is the first k with left ≤ k * n. Conditions: none beyond the two numbers being of 64 bits. -/
import Derived.Test.YtkojciapfghibaaPFnExactStepsForx1
namespace Go.Proofs.Ytkojciapfghibaa.Pure
open Go.RowKit Go.Proofs.Ytkojciapfghibaa.PFnExactStepsFor Go.Proofs.YtkojciapfghibaaW.PrintWords Go.Proofs.YtkojciapfghibaaW.PrintLast

theorem in_eq (a b c : Int) : spec_l1In.f a b c = some (decide (b ≤ a ∧ a ≤ c)) := by
  unfold spec_l1In.f
  by_cases h : b ≤ a <;> simp [h]

theorem within_eq (a b c : Int) : impl_within.f a b c = some (decide (b ≤ a ∧ a ≤ c)) := by
  unfold impl_within.f
  by_cases h : b ≤ a <;> simp [h]

theorem loop_tells (left n : Int) (h0 : 0 ≤ left) (h1 : left ≤ 999999) (hn : 1 ≤ n) (hn8 : n ≤ 8) (q : Int) (hq0 : 0 ≤ q) (hq : left ≤ q * n) (hq1 : ∀ j, 0 ≤ j → j < q → j * n < left) (hqb : q ≤ 999999) (d : Nat) :
    ∀ (k : Nat) (i : Int), 0 ≤ i → i ≤ q → q - i = d → d < k → spec_StepsFor.l0 k left n i = some (0, q) := by
  induction d with
  | zero =>
    intro k i hi0 hi1 hd hk
    obtain ⟨k, rfl⟩ : ∃ m, k = m + 1 := ⟨k - 1, by omega⟩
    obtain rfl : i = q := by omega
    have hb : i * n ≤ 999999 * 8 := by
      have h1 : i * n ≤ i * 8 := Int.mul_le_mul_of_nonneg_left hn8 hi0
      omega
    have hb0 : 0 ≤ i * n := Int.mul_nonneg hi0 (by omega)
    have hw : wrap64 (i * n) = i * n := by
      generalize i * n = x at *
      unfold wrap64; omega
    simp only [spec_StepsFor.l0]
    rw [hw, if_neg (by omega)]
  | succ d ih =>
    intro k i hi0 hi1 hd hk
    obtain ⟨k, rfl⟩ : ∃ m, k = m + 1 := ⟨k - 1, by omega⟩
    have hlt := hq1 i hi0 (by omega)
    have hb0 : 0 ≤ i * n := Int.mul_nonneg hi0 (by omega)
    have hw : wrap64 (i * n) = i * n := by
      generalize i * n = x at *
      unfold wrap64; omega
    have hw1 : wrap64 (i + 1) = i + 1 := by unfold wrap64; omega
    simp only [spec_StepsFor.l0]
    rw [hw, if_pos hlt, hw1]
    exact ih k (i + 1) (by omega) (by omega) (by omega) (by omega)

theorem quo_tells (left n : Int) (h0 : 0 ≤ left) (hn : 1 ≤ n) : 
    0 ≤ (left + n - 1) / n ∧ left ≤ (left + n - 1) / n * n ∧ (left + n - 1) / n ≤ left ∧ ∀ j, 0 ≤ j → j < (left + n - 1) / n → j * n < left := by
  have hm := Int.emod_add_mul_ediv (left + n - 1) n
  have hm0 := Int.emod_nonneg (left + n - 1) (show n ≠ 0 by omega)
  have hm1 := Int.emod_lt_of_pos (left + n - 1) (show 0 < n by omega)
  have hq0 : 0 ≤ (left + n - 1) / n := Int.ediv_nonneg (by omega) (by omega)
  generalize (left + n - 1) / n = q at *
  have hc : n * q = q * n := Int.mul_comm _ _
  refine ⟨hq0, by omega, ?_, ?_⟩
  · by_cases hl : 0 < left
    · by_cases h : left < q
      · have h2 : (left + 1) * n ≤ q * n := Int.mul_le_mul_of_nonneg_right (by omega) (by omega)
        have h3 : (left + 1) * n = left * n + n := by rw [Int.add_mul]; omega
        have h4 : left * 1 ≤ left * n := Int.mul_le_mul_of_nonneg_left hn (by omega)
        omega
      · omega
    · have : q * n < 1 * n := by omega
      have := Int.lt_of_mul_lt_mul_right this (by omega)
      omega
  · intro j hj0 hj
    have h2 : (j + 1) * n ≤ q * n := Int.mul_le_mul_of_nonneg_right (by omega) (by omega)
    have h3 : (j + 1) * n = j * n + n := by rw [Int.add_mul]; omega
    omega

/-- YOURS: ∀ (a0 : Int) (a1 : Int), (Lit.int .i64 a0).wf = true → (Lit.int .i64 a1).wf = true → ∃ k, laws_FnExactStepsFor.f k a0 a1 = some true
What it reaches (each with k first where it has rounds; `.mono`: more rounds tell the same; `.l0`, ..: its loops, with `.mono_l`): spec_l1In.f, spec_StepsFor.f, impl_within.f, impl_StepsFor.f, laws_eqIntResult.f, laws_FnExactStepsFor.f -/
theorem FnExactStepsFor : laws_FnExactStepsFor.Pure := by
  intro left n hl hn
  by_cases hok : (0 ≤ left ∧ left ≤ 999999) ∧ (1 ≤ n ∧ n ≤ 8)
  · obtain ⟨⟨h0, h1⟩, h2, h3⟩ := hok
    obtain ⟨q0, q1, q2, q3⟩ := quo_tells left n h0 h2
    have hw : wrap64 (left + n) = left + n := by unfold wrap64; omega
    have hw2 : wrap64 (left + n - 1) = left + n - 1 := by unfold wrap64; omega
    have hdiv : Int.tdiv (left + n - 1) n = (left + n - 1) / n := Int.tdiv_eq_ediv_of_nonneg (by omega)
    have hw3 : wrap64 ((left + n - 1) / n) = (left + n - 1) / n := by
      generalize (left + n - 1) / n = q at *
      unfold wrap64; omega
    have hl0 := loop_tells left n h0 h1 h2 h3 _ q0 q1 q3 (by omega) ((left + n - 1) / n).toNat (((left + n - 1) / n).toNat + 1) 0 (by omega) q0 (by omega) (by omega)
    refine ⟨((left + n - 1) / n).toNat + 2, ?_⟩
    unfold laws_FnExactStepsFor.f spec_StepsFor.f impl_StepsFor.f
    simp only [in_eq, within_eq, Option.bind_some, h0, h1, h2, h3, and_self, decide_true, if_true, Bool.not_true, spec_StepsFor.j0, Bool.false_eq_true, if_false, hl0, hw, hw2, hdiv, hw3]
    rw [if_neg (by omega)]
    simp [laws_eqIntResult.f]
  · refine ⟨1, ?_⟩
    unfold laws_FnExactStepsFor.f spec_StepsFor.f impl_StepsFor.f
    simp only [in_eq, within_eq, Option.bind_some]
    by_cases hA : 0 ≤ left ∧ left ≤ 999999
    · have hB : ¬ (1 ≤ n ∧ n ≤ 8) := fun h => hok ⟨hA, h⟩
      simp [hA, hB, spec_StepsFor.j0, laws_eqIntResult.f]
    · simp [hA, spec_StepsFor.j0, laws_eqIntResult.f]

end Go.Proofs.Ytkojciapfghibaa.Pure
