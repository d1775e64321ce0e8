/- FnExactOpFault: the given statement: whatever the arguments, the law is true. Out of the contract of its function. -/
import Derived.Test.YtkojciapfghibaaRows
import Derived.Test.YtkojciapfghibaaA2
import Derived.Test.YtkojciapfghibaaScO
import Derived.WalkKit
import Derived.ProofKit
import Derived.OpenShut
import Derived.ShutString
import Derived.ChangeOld
import Derived.Below
import Derived.SizedLaws
import Derived.ChangeBears
set_option linter.unusedVariables false
set_option linter.unusedSimpArgs false
set_option maxRecDepth 100000
namespace Go.Proofs.Ytkojciapfghibaa.fnExactOpFault
open Go Go.SC Go.ChangeShapes Go.WideShapes Go.ChangeAt Go.RowKit
open Go.ChangeMaps (open_string shut_string)
theorem own : ownKnob Try.prog.godebug = none := by kernel_rfl
theorem kids : Kids Try.prog (· < Try.prog.types.size) := kids_rows (by kernel_rfl) (by kernel_rfl)
theorem sized {t e : TypeId} (ht : t < Try.prog.types.size) (hu : Try.prog.underlying t = some (.slice e)) : 0 < Try.prog.cellsOf e := by
  have hall : (List.range Try.prog.types.size).all (fun t => match Try.prog.underlying t with | some (.slice e) => decide (0 < Try.prog.cellsOf e) | _ => true) = true := by kernel_rfl
  have h := List.all_eq_true.1 hall t (List.mem_range.2 ht)
  rw [hu] at h
  exact of_decide_eq_true h
theorem opn0 : Opn Try.prog 36 GOp := (opn_struct (fun x : GOp => (x.kind, x.term, x.value, x.n, x.order, x.equations)) (fun y => GOp.mk y.1 y.2.1 y.2.2.1 y.2.2.2.1 y.2.2.2.2.1 y.2.2.2.2.2) (fun _ => rfl) (fun _ => rfl) (fun _ h => h) (fun _ h => h) Try.underlying36 (by kernel_rfl) rfl (of_decide_eq_true (by kernel_rfl)) (OpnL.cons (opn_int Try.underlying2 (by kernel_rfl) (of_decide_eq_true (by kernel_rfl))) rfl rfl (OpnL.cons (opn_list (opn_int Try.underlying2 (by kernel_rfl) (of_decide_eq_true (by kernel_rfl))) Try.underlying33 (by kernel_rfl) (of_decide_eq_true (by kernel_rfl))) rfl rfl (OpnL.cons (opn_int Try.underlying2 (by kernel_rfl) (of_decide_eq_true (by kernel_rfl))) rfl rfl (OpnL.cons (opn_int Try.underlying2 (by kernel_rfl) (of_decide_eq_true (by kernel_rfl))) rfl rfl (OpnL.cons (opn_list (opn_int Try.underlying2 (by kernel_rfl) (of_decide_eq_true (by kernel_rfl))) Try.underlying33 (by kernel_rfl) (of_decide_eq_true (by kernel_rfl))) rfl rfl (OpnL.one (opn_list (opn_struct (fun x : GEquation => (x.left, x.right)) (fun y => GEquation.mk y.1 y.2) (fun _ => rfl) (fun _ => rfl) (fun _ h => h) (fun _ h => h) Try.underlying91 (by kernel_rfl) rfl (of_decide_eq_true (by kernel_rfl)) (OpnL.cons (opn_list (opn_int Try.underlying2 (by kernel_rfl) (of_decide_eq_true (by kernel_rfl))) Try.underlying33 (by kernel_rfl) (of_decide_eq_true (by kernel_rfl))) rfl rfl (OpnL.one (opn_list (opn_int Try.underlying2 (by kernel_rfl) (of_decide_eq_true (by kernel_rfl))) Try.underlying33 (by kernel_rfl) (of_decide_eq_true (by kernel_rfl))) rfl))) Try.underlying34 (by kernel_rfl) (of_decide_eq_true (by kernel_rfl))) rfl)))))))
theorem lifted (os : Os) (started : os.Started) (H : Type) (enc0 : TypeId × Value → H) :
    ReturnsInHanded {} Try.checked os 5 .any (Rows.fnExactOpFaultSpec.pre6 enc0 Try.prog Try.f5 Rows.fnExactOpFaultRow.domain false) (Rows.fnExactOpFaultSpec.post enc0 Try.prog Try.f5 false true false false) := by
  refine returnsInHanded_of_change_sized (C := Try.checked) own started (by kernel_rfl) Try.func5
    (ChangeSpec.witness6 (enc := enc0) (C := Try.checked) false ⟨#[], #[(Value.agg #[Value.int IntKind.i64 0, Value.slice none 0 0, Value.int IntKind.i64 0, Value.int IntKind.i64 0, Value.slice none 0 0, Value.slice none 0 0])], []⟩ 64 (by kernel_rfl) (by kernel_rfl) (by kernel_rfl) (by kernel_rfl)) ?_
  intro W base args ds gs before hval0 hW hcnd hsz0 _
  have hsz : (DataW.weightsEach Try.prog (Try.f5.params.toList ++ Rows.fnExactOpFaultSpec.plain.varTypes Try.prog) (ds ++ gs)).all (· ≤ reachBytes) = true := hsz0
  have hval : ∀ (j : Nat) t v, Try.f5.params[j]? = some t → args[j]? = some v → Value.okWide Try.prog W .any base t v := hval0
  have hW' := hW
  obtain ⟨p, q, hA0, hV, rfl, hfz, hnd⟩ := hW
  have hA : DataW.TrodAll enc0 Try.prog W 0 (fun _ => true) true Try.f5.params.toList args.toList ds p := hA0
  have hA1 := hA
  rw [Try.params5] at hA hval hsz
  obtain ⟨v0, vs0, d0, ds0, p0, q0, hargs, rfl, rfl, h0, r0⟩ := trodAll_cons hA
  obtain ⟨rfl, rfl, rfl⟩ := trodAll_nil r0
  obtain rfl : args = #[v0] := by cases args; simp_all
  obtain ⟨rfl, rfl⟩ := trodVars_none hV
  have hz : (DataW.weightsEach Try.prog [36] [d0]).all (· ≤ reachBytes) = true := hsz
  simp only [DataW.weightsEach, List.all_append, List.append_nil, Bool.and_eq_true] at hz
  have z0 := hz
  obtain ⟨fu0, t0⟩ := h0
  obtain ⟨a0, l0, s0, g0⟩ := opn0.op enc0 W fu0 _ _ t0 z0
  have c0 := vr_struct Try.underlying36 (hval 0 36 v0 rfl rfl) l0
  have hc := law_calls (W5_ok [.agg (enc (a0)).toArray] _ _ _ ⟨a0, rfl, s0, rfl⟩) W #[v0] (sr_cons c0 (sr_nil))
  refine hc.mono fun e W' ⟨he, hh, ho, hp⟩ => ?_
  subst he
  refine ⟨_, rfl, _, _, _, [], _, [], hW', trodAll_mk1 (shut_bool Try.underlying4 _), trodAll_stays kids sized hh (fun B hB => by simpa using hB) (by rw [Try.params5]; simp only [List.mem_cons, List.not_mem_nil, or_false]; intro t ht; subst ht; exact of_decide_eq_true (by kernel_rfl)) hA1, rfl, kept_same hh ho hp _, fun h => by cases h⟩
theorem over : Rows.fnExactOpFaultRow.holds Try.pinned (OpenSpec.ofChange Rows.fnExactOpFaultSpec) :=
  OpenClaim.holds_of_wide 5 Try.f5 rfl rfl rfl rfl rfl rfl rfl ⟨rfl, rfl, rfl, rfl, rfl⟩ rfl rfl rfl rfl rfl (by kernel_rfl) Try.func5 (by kernel_rfl)
    (of_decide_eq_true (by kernel_rfl)) (by unfold Func.isWrapper; first | (rw [if_pos (by decide +kernel)]; kernel_rfl) | (rw [if_neg (by decide +kernel)]; exact ⟨rfl, rfl⟩))
    (fun os started H enc0 _ => lifted os started H enc0)
end Go.Proofs.Ytkojciapfghibaa.fnExactOpFault
namespace Go.Proofs.Ytkojciapfghibaa
/-- The given statement. -/
theorem fnExactOpFault_holds : Rows.FnExactOpFaultSaid := fnExactOpFault.over
end Go.Proofs.Ytkojciapfghibaa
