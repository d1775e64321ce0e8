/- FnExactOrderText: the given statement: whatever the arguments, the law is true. Out of the contract of its function. -/
import Derived.Test.YtkojciapfghibaaDoorRows
import Derived.Test.YtkojciapfghibaaDoorA2
import Derived.Test.YtkojciapfghibaaDoorScO
import Derived.Test.YtkojciapfghibaaDoorTie
import Derived.Test.YtkojciapfghibaaDoorCards
import Derived.WalkKit
import Derived.ProofKit
import Derived.OpenShut
import Derived.ShutString
import Derived.ChangeOld
import Derived.Below
import Derived.SizedLaws
import Derived.ChangeBears
import Derived.LaidMore
import Derived.Lay
import Derived.SevenTiedAt
import Derived.Stop.Joined
set_option linter.unusedVariables false
set_option linter.unusedSimpArgs false
set_option maxRecDepth 100000
namespace Go.Proofs.YtkojciapfghibaaDoor.fnExactOrderText
open Go Go.SC Go.ChangeShapes Go.WideShapes Go.ChangeAt Go.RowKit
open Go.ChangeMaps (open_string shut_string)
theorem own : ownKnob Tryd.prog.godebug = none := by kernel_rfl
theorem kids : Kids Tryd.prog (· < Tryd.prog.types.size) := kids_rows (by kernel_rfl) (by kernel_rfl)
theorem sized {t e : TypeId} (ht : t < Tryd.prog.types.size) (hu : Tryd.prog.underlying t = some (.slice e)) : 0 < Tryd.prog.cellsOf e := by
  have hall : (List.range Tryd.prog.types.size).all (fun t => match Tryd.prog.underlying t with | some (.slice e) => decide (0 < Tryd.prog.cellsOf e) | _ => true) = true := by kernel_rfl
  have h := List.all_eq_true.1 hall t (List.mem_range.2 ht)
  rw [hu] at h
  exact of_decide_eq_true h
theorem opn0 : Opn Tryd.prog 31 GSignature := (opn_struct (fun x : GSignature => x.symbols) (fun y => GSignature.mk y) (fun _ => rfl) (fun _ => rfl) (fun _ h => h) (fun _ h => h) Tryd.underlying31 (by kernel_rfl) rfl (of_decide_eq_true (by kernel_rfl)) (OpnL.one (opn_list (opn_struct (fun x : GSymbol => (x.name, x.arity)) (fun y => GSymbol.mk y.1 y.2) (fun _ => rfl) (fun _ => rfl) (fun _ h => h) (fun _ h => h) Tryd.underlying63 (by kernel_rfl) rfl (of_decide_eq_true (by kernel_rfl)) (OpnL.cons (opn_str Tryd.underlying9 (by kernel_rfl) (of_decide_eq_true (by kernel_rfl))) rfl rfl (OpnL.one (opn_int Tryd.underlying2 (by kernel_rfl) (of_decide_eq_true (by kernel_rfl))) rfl))) Tryd.underlying29 (by kernel_rfl) (of_decide_eq_true (by kernel_rfl))) rfl))
theorem opn1 : Opn Tryd.prog 32 (List Int) := (opn_list (opn_int Tryd.underlying2 (by kernel_rfl) (of_decide_eq_true (by kernel_rfl))) Tryd.underlying32 (by kernel_rfl) (of_decide_eq_true (by kernel_rfl)))
theorem lifted (os : Os) (started : os.Started) (H : Type) (enc0 : TypeId × Value → H) :
    ReturnsInHanded {} Tryd.checked os 4 .any (fun w args => (Rows.fnExactOrderTextSpec.pre enc0 Tryd.prog Tryd.f4 Rows.fnExactOrderTextRow.domain false w args ∧ laidMetH Tryd.prog Rows.fnExactOrderTextRow.laid w) ∧ sizedMet enc0 Tryd.prog Tryd.f4 (OpenSpec.ofChange Rows.fnExactOrderTextSpec) false w args)
      (Rows.fnExactOrderTextSpec.post enc0 Tryd.prog Tryd.f4 false true false false) := by
  refine returnsInHanded_of_change_and (C := Tryd.checked) (X := fun w _ => laidMetH Tryd.prog Rows.fnExactOrderTextRow.laid w) (fun _ _ _ hh h => h.of_heap hh) own started (by kernel_rfl) Tryd.func4
    (ChangeSpec.witness_shaped (enc := enc0) (C := Tryd.checked) (os := os) (X := fun w _ => laidMetH Tryd.prog Rows.fnExactOrderTextRow.laid w) false (World.laidAll Tryd.prog os Rows.fnExactOrderTextRow.laid) #[(Value.agg #[Value.slice none 0 0]), (Value.slice none 0 0)] 64 (World.laidAll_os _ _ _)
      (World.shaped_of_ZipB (by kernel_rfl) (by kernel_rfl)) (by kernel_rfl) (by kernel_rfl) (by kernel_rfl)
      (by rw [MakeChecks.laidMetH_plain _ _ _ (by kernel_rfl)]; exact laidMet_laidAll _ (by kernel_rfl) (by kernel_rfl))) ?_
  intro W base args ds gs before hval0 hW hcnd hsz0 hL _
  have hsz : (DataW.weightsEach Tryd.prog (Tryd.f4.params.toList ++ Rows.fnExactOrderTextSpec.plain.varTypes Tryd.prog) (ds ++ gs)).all (· ≤ reachBytes) = true := hsz0
  have hval : ∀ (j : Nat) t v, Tryd.f4.params[j]? = some t → args[j]? = some v → Value.okWide Tryd.prog W .any base t v := hval0
  have hW' := hW
  obtain ⟨p, q, hA0, hV, rfl, hfz, hnd⟩ := hW
  have hA : DataW.TrodAll enc0 Tryd.prog W 0 (fun _ => true) true Tryd.f4.params.toList args.toList ds p := hA0
  have hA1 := hA
  rw [Tryd.params4] at hA hval hsz
  obtain ⟨v0, vs0, d0, ds0, p0, q0, hargs, rfl, rfl, h0, r0⟩ := trodAll_cons hA
  obtain ⟨v1, vs1, d1, ds1, p1, q1, rfl, rfl, rfl, h1, r1⟩ := trodAll_cons r0
  obtain ⟨rfl, rfl, rfl⟩ := trodAll_nil r1
  obtain rfl : args = #[v0, v1] := by cases args; simp_all
  obtain ⟨rfl, rfl⟩ := trodVars_none hV
  have hz : (DataW.weightsEach Tryd.prog [31, 32] [d0, d1]).all (· ≤ reachBytes) = true := hsz
  simp only [DataW.weightsEach, List.all_append, List.append_nil, Bool.and_eq_true] at hz
  obtain ⟨z0, z1⟩ := hz
  obtain ⟨fu0, t0⟩ := h0
  obtain ⟨a0, l0, s0, g0⟩ := opn0.op enc0 W fu0 _ _ t0 z0
  have c0 := vr_struct Tryd.underlying31 (hval 0 31 v0 rfl rfl) l0
  obtain ⟨fu1, t1⟩ := h1
  obtain ⟨a1, l1, s1, g1⟩ := opn1.op enc0 W fu1 _ _ t1 z1
  have c1 := vr_slice Tryd.underlying32 (hval 1 32 v1 rfl rfl) l1
  have hc := law_calls (W4_ok [.agg (enc (a0)).toArray, lst (a1)] _ _ _ ⟨a0, a1, rfl, ⟨s0, s1, g1⟩, rfl⟩) W #[v0, v1] (sr_cons c0 (sr_cons c1 (sr_nil)))
  refine hc.mono fun e W' ⟨he, hh, ho, hp⟩ => ?_
  subst he
  refine ⟨_, rfl, _, _, _, [], _, [], hW', trodAll_mk1 (shut_bool Tryd.underlying4 _), trodAll_stays kids sized hh (fun B hB => by simpa using hB) (by rw [Tryd.params4]; simp only [List.mem_cons, List.not_mem_nil, or_false]; intro t ht; rcases ht with rfl | rfl <;> exact of_decide_eq_true (by kernel_rfl)) hA1, rfl, kept_same hh ho hp _, fun h => by cases h⟩
theorem over : Rows.fnExactOrderTextRow.holds Tryd.pinned (OpenSpec.ofChange Rows.fnExactOrderTextSpec) :=
  OpenClaim.holds_of_wide 4 Tryd.f4 rfl rfl rfl rfl rfl rfl rfl ⟨rfl, rfl, rfl, rfl, rfl⟩ rfl rfl rfl rfl rfl (by kernel_rfl) Tryd.func4 (by kernel_rfl)
    (of_decide_eq_true (by kernel_rfl)) (by unfold Func.isWrapper; first | (rw [if_pos (by decide +kernel)]; kernel_rfl) | (rw [if_neg (by decide +kernel)]; exact ⟨rfl, rfl⟩))
    (fun os started H enc0 _ => lifted os started H enc0)
end Go.Proofs.YtkojciapfghibaaDoor.fnExactOrderText
namespace Go.Proofs.YtkojciapfghibaaDoor
/-- The given statement. -/
theorem fnExactOrderText_holds : Rows.FnExactOrderTextSaid := fnExactOrderText.over
theorem fnExactOrderTextCard_holds : Rows.FnExactOrderTextCardSaid :=
  Claim7.holds_tied_plain_at .later [] [.data, .pinned] true Rows.fnExactOrderTextCard.stood.harness false fnExactOrderText_holds (fun _ h => by cases h) (by kernel_rfl) (fun _ h => by cases h) fnExactOrderText_row_tie rfl ⟨rfl, rfl⟩ (by kernel_rfl) rfl
    (fun f fn hf hfn => by
      obtain rfl : f = 4 := Option.some.inj ((show Tryd.prog.funcNamed Rows.fnExactOrderTextRow.func = some 4 by kernel_rfl).symm.trans hf) |>.symm
      obtain rfl : fn = Tryd.f4 := (Option.some.inj (Tryd.func4.symm.trans hfn)).symm
      exact ⟨by kernel_rfl, fun j t ht => by
        rw [Tryd.params4] at ht
        have hm : t ∈ [31, 32] := by simpa using Array.mem_of_getElem? ht
        have hall : ([31, 32].all fun u => !Tryd.prog.wantsStandIn u) = true := by kernel_rfl
        exact (show Tryd.prog.wantsStandIn t = false by simpa using List.all_eq_true.1 hall t hm)⟩)
    (by kernel_rfl)
end Go.Proofs.YtkojciapfghibaaDoor
