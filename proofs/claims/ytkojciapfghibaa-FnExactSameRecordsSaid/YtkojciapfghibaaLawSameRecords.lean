/- FnExactSameRecords: the given statement: whatever the arguments, the law is true. Out of the contract of its function. -/
import Derived.Test.YtkojciapfghibaaRows
import Derived.Test.YtkojciapfghibaaA1
import Derived.Test.YtkojciapfghibaaScO
import Derived.WalkKit
import Derived.ProofKit
import Derived.OpenShut
import Derived.ShutString
import Derived.ChangeOld
import Derived.Below
import Derived.SizedLaws
import Derived.ChangeBears
set_option linter.unusedVariables false
set_option linter.unusedSimpArgs false
set_option maxRecDepth 100000
namespace Go.Proofs.Ytkojciapfghibaa.fnExactSameRecords
open Go Go.SC Go.ChangeShapes Go.WideShapes Go.ChangeAt Go.RowKit
open Go.ChangeMaps (open_string shut_string)
theorem own : ownKnob Try.prog.godebug = none := by kernel_rfl
theorem kids : Kids Try.prog (· < Try.prog.types.size) := kids_rows (by kernel_rfl) (by kernel_rfl)
theorem sized {t e : TypeId} (ht : t < Try.prog.types.size) (hu : Try.prog.underlying t = some (.slice e)) : 0 < Try.prog.cellsOf e := by
  have hall : (List.range Try.prog.types.size).all (fun t => match Try.prog.underlying t with | some (.slice e) => decide (0 < Try.prog.cellsOf e) | _ => true) = true := by kernel_rfl
  have h := List.all_eq_true.1 hall t (List.mem_range.2 ht)
  rw [hu] at h
  exact of_decide_eq_true h
theorem opn0 : Opn Try.prog 27 (List GRecord) := (opn_list (opn_struct (fun x : GRecord => (x.term, x.value)) (fun y => GRecord.mk y.1 y.2) (fun _ => rfl) (fun _ => rfl) (fun _ h => h) (fun _ h => h) Try.underlying67 (by kernel_rfl) rfl (of_decide_eq_true (by kernel_rfl)) (OpnL.cons (opn_list (opn_int Try.underlying2 (by kernel_rfl) (of_decide_eq_true (by kernel_rfl))) Try.underlying33 (by kernel_rfl) (of_decide_eq_true (by kernel_rfl))) rfl rfl (OpnL.one (opn_int Try.underlying2 (by kernel_rfl) (of_decide_eq_true (by kernel_rfl))) rfl))) Try.underlying27 (by kernel_rfl) (of_decide_eq_true (by kernel_rfl)))
theorem opn1 : Opn Try.prog 27 (List GRecord) := (opn_list (opn_struct (fun x : GRecord => (x.term, x.value)) (fun y => GRecord.mk y.1 y.2) (fun _ => rfl) (fun _ => rfl) (fun _ h => h) (fun _ h => h) Try.underlying67 (by kernel_rfl) rfl (of_decide_eq_true (by kernel_rfl)) (OpnL.cons (opn_list (opn_int Try.underlying2 (by kernel_rfl) (of_decide_eq_true (by kernel_rfl))) Try.underlying33 (by kernel_rfl) (of_decide_eq_true (by kernel_rfl))) rfl rfl (OpnL.one (opn_int Try.underlying2 (by kernel_rfl) (of_decide_eq_true (by kernel_rfl))) rfl))) Try.underlying27 (by kernel_rfl) (of_decide_eq_true (by kernel_rfl)))
theorem lifted (os : Os) (started : os.Started) (H : Type) (enc0 : TypeId × Value → H) :
    ReturnsInHanded {} Try.checked os 4 .any (Rows.fnExactSameRecordsSpec.pre6 enc0 Try.prog Try.f4 Rows.fnExactSameRecordsRow.domain false) (Rows.fnExactSameRecordsSpec.post enc0 Try.prog Try.f4 false true false false) := by
  refine returnsInHanded_of_change_sized (C := Try.checked) own started (by kernel_rfl) Try.func4
    (ChangeSpec.witness6 (enc := enc0) (C := Try.checked) false ⟨#[], #[(Value.slice none 0 0), (Value.slice none 0 0)], []⟩ 64 (by kernel_rfl) (by kernel_rfl) (by kernel_rfl) (by kernel_rfl)) ?_
  intro W base args ds gs before hval0 hW hcnd hsz0 _
  have hsz : (DataW.weightsEach Try.prog (Try.f4.params.toList ++ Rows.fnExactSameRecordsSpec.plain.varTypes Try.prog) (ds ++ gs)).all (· ≤ reachBytes) = true := hsz0
  have hval : ∀ (j : Nat) t v, Try.f4.params[j]? = some t → args[j]? = some v → Value.okWide Try.prog W .any base t v := hval0
  have hW' := hW
  obtain ⟨p, q, hA0, hV, rfl, hfz, hnd⟩ := hW
  have hA : DataW.TrodAll enc0 Try.prog W 0 (fun _ => true) true Try.f4.params.toList args.toList ds p := hA0
  have hA1 := hA
  rw [Try.params4] at hA hval hsz
  obtain ⟨v0, vs0, d0, ds0, p0, q0, hargs, rfl, rfl, h0, r0⟩ := trodAll_cons hA
  obtain ⟨v1, vs1, d1, ds1, p1, q1, rfl, rfl, rfl, h1, r1⟩ := trodAll_cons r0
  obtain ⟨rfl, rfl, rfl⟩ := trodAll_nil r1
  obtain rfl : args = #[v0, v1] := by cases args; simp_all
  obtain ⟨rfl, rfl⟩ := trodVars_none hV
  have hz : (DataW.weightsEach Try.prog [27, 27] [d0, d1]).all (· ≤ reachBytes) = true := hsz
  simp only [DataW.weightsEach, List.all_append, List.append_nil, Bool.and_eq_true] at hz
  obtain ⟨z0, z1⟩ := hz
  obtain ⟨fu0, t0⟩ := h0
  obtain ⟨a0, l0, s0, g0⟩ := opn0.op enc0 W fu0 _ _ t0 z0
  have c0 := vr_slice Try.underlying27 (hval 0 27 v0 rfl rfl) l0
  obtain ⟨fu1, t1⟩ := h1
  obtain ⟨a1, l1, s1, g1⟩ := opn1.op enc0 W fu1 _ _ t1 z1
  have c1 := vr_slice Try.underlying27 (hval 1 27 v1 rfl rfl) l1
  have hc := law_calls (W4_ok [lst (a0), lst (a1)] _ _ _ ⟨a0, a1, rfl, ⟨s0, s1⟩, rfl⟩) W #[v0, v1] (sr_cons c0 (sr_cons c1 (sr_nil)))
  refine hc.mono fun e W' ⟨he, hh, ho, hp⟩ => ?_
  subst he
  refine ⟨_, rfl, _, _, _, [], _, [], hW', trodAll_mk1 (shut_bool Try.underlying4 _), trodAll_stays kids sized hh (fun B hB => by simpa using hB) (by rw [Try.params4]; simp only [List.mem_cons, List.not_mem_nil, or_false]; intro t ht; rcases ht with rfl | rfl <;> exact of_decide_eq_true (by kernel_rfl)) hA1, rfl, kept_same hh ho hp _, fun h => by cases h⟩
theorem over : Rows.fnExactSameRecordsRow.holds Try.pinned (OpenSpec.ofChange Rows.fnExactSameRecordsSpec) :=
  OpenClaim.holds_of_wide 4 Try.f4 rfl rfl rfl rfl rfl rfl rfl ⟨rfl, rfl, rfl, rfl, rfl⟩ rfl rfl rfl rfl rfl (by kernel_rfl) Try.func4 (by kernel_rfl)
    (of_decide_eq_true (by kernel_rfl)) (by unfold Func.isWrapper; first | (rw [if_pos (by decide +kernel)]; kernel_rfl) | (rw [if_neg (by decide +kernel)]; exact ⟨rfl, rfl⟩))
    (fun os started H enc0 _ => lifted os started H enc0)
end Go.Proofs.Ytkojciapfghibaa.fnExactSameRecords
namespace Go.Proofs.Ytkojciapfghibaa
/-- The given statement. -/
theorem fnExactSameRecords_holds : Rows.FnExactSameRecordsSaid := fnExactSameRecords.over
end Go.Proofs.Ytkojciapfghibaa
