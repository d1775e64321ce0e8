/- FnExactReadOrder: the given statement: whatever the arguments, the law is true. Out of the contract of its function. -/
import Derived.Test.YthhcemhignihlaaDoorRows
import Derived.Test.YthhcemhignihlaaDoorA2
import Derived.Test.YthhcemhignihlaaDoorScO
import Derived.Test.YthhcemhignihlaaDoorTie
import Derived.Test.YthhcemhignihlaaDoorCards
import Derived.WalkKit
import Derived.ProofKit
import Derived.OpenShut
import Derived.ShutString
import Derived.ChangeOld
import Derived.Below
import Derived.SizedLaws
import Derived.ChangeBears
import Derived.LaidMore
import Derived.Lay
import Derived.Shelf.Vars
import Derived.Stop.LaidErr
import Derived.Lib.LaidTab
import Derived.SevenTiedAt
import Derived.Stop.Joined
set_option linter.unusedVariables false
set_option linter.unusedSimpArgs false
set_option maxRecDepth 100000
namespace Go.Proofs.YthhcemhignihlaaDoor.fnExactReadOrder
open Go Go.SC Go.ChangeShapes Go.WideShapes Go.ChangeAt Go.RowKit Go.Proofs
open Go.ChangeMaps (open_string shut_string)
theorem own : ownKnob Tryd.prog.godebug = none := by kernel_rfl
theorem kids : Kids Tryd.prog (· < Tryd.prog.types.size) := kids_rows (by kernel_rfl) (by kernel_rfl)
theorem sized {t e : TypeId} (ht : t < Tryd.prog.types.size) (hu : Tryd.prog.underlying t = some (.slice e)) : 0 < Tryd.prog.cellsOf e := by
  have hall : (List.range Tryd.prog.types.size).all (fun t => match Tryd.prog.underlying t with | some (.slice e) => decide (0 < Tryd.prog.cellsOf e) | _ => true) = true := by kernel_rfl
  have h := List.all_eq_true.1 hall t (List.mem_range.2 ht)
  rw [hu] at h
  exact of_decide_eq_true h
theorem opn0 : Opn Tryd.prog 31 GSignature := (opn_struct (fun x : GSignature => x.symbols) (fun y => GSignature.mk y) (fun _ => rfl) (fun _ => rfl) (fun _ h => h) (fun _ h => h) Tryd.underlying31 (by kernel_rfl) rfl (of_decide_eq_true (by kernel_rfl)) (OpnL.one (opn_list (opn_struct (fun x : GSymbol => (x.name, x.arity)) (fun y => GSymbol.mk y.1 y.2) (fun _ => rfl) (fun _ => rfl) (fun _ h => h) (fun _ h => h) Tryd.underlying67 (by kernel_rfl) rfl (of_decide_eq_true (by kernel_rfl)) (OpnL.cons (opn_str Tryd.underlying9 (by kernel_rfl) (of_decide_eq_true (by kernel_rfl))) rfl rfl (OpnL.one (opn_int Tryd.underlying2 (by kernel_rfl) (of_decide_eq_true (by kernel_rfl))) rfl))) Tryd.underlying29 (by kernel_rfl) (of_decide_eq_true (by kernel_rfl))) rfl))
theorem opn1 : Opn Tryd.prog 9 ByteArray := (opn_str Tryd.underlying9 (by kernel_rfl) (of_decide_eq_true (by kernel_rfl)))
theorem lifted (os : Os) (started : os.Started) (H : Type) (enc0 : TypeId × Value → H) :
    ReturnsInHanded {} Tryd.checked os 4 .any (fun w args => (Rows.fnExactReadOrderSpec.pre enc0 Tryd.prog Tryd.f4 Rows.fnExactReadOrderRow.domain false w args ∧ laidMetH Tryd.prog Rows.fnExactReadOrderRow.laid w) ∧ sizedMet enc0 Tryd.prog Tryd.f4 (OpenSpec.ofChange Rows.fnExactReadOrderSpec) false w args)
      (Rows.fnExactReadOrderSpec.post enc0 Tryd.prog Tryd.f4 false true false false) := by
  refine handed_and_shaped (C := Tryd.checked) (X := fun w _ => laidMetH Tryd.prog Rows.fnExactReadOrderRow.laid w) (fun _ _ _ hh h => h.of_heap hh) own started (by kernel_rfl) Tryd.func4
    (ChangeSpec.witness_shaped (enc := enc0) (C := Tryd.checked) (os := os) (X := fun w _ => laidMetH Tryd.prog Rows.fnExactReadOrderRow.laid w) false (World.laidAll Tryd.prog os Rows.fnExactReadOrderRow.laid) #[(Value.agg #[Value.slice none 0 0]), (Value.string { data := #[] })] 64 (World.laidAll_os _ _ _)
      (World.shaped_of_ZipB (by kernel_rfl) (by kernel_rfl)) (by kernel_rfl) (by kernel_rfl) (by kernel_rfl)
      (by rw [MakeChecks.laidMetH_plain _ _ _ (by kernel_rfl)]; exact laidMet_laidAll _ (by kernel_rfl) (by kernel_rfl))) ?_
  intro W base args ds gs before hval0 hW hcnd hsz0 hL hShp
  have hsz : (DataW.weightsEach Tryd.prog (Tryd.f4.params.toList ++ Rows.fnExactReadOrderSpec.plain.varTypes Tryd.prog) (ds ++ gs)).all (· ≤ reachBytes) = true := hsz0
  have hval : ∀ (j : Nat) t v, Tryd.f4.params[j]? = some t → args[j]? = some v → Value.okWide Tryd.prog W .any base t v := hval0
  have hW' := hW
  obtain ⟨p, q, hA0, hV, rfl, hfz, hnd⟩ := hW
  have hA : DataW.TrodAll enc0 Tryd.prog W 0 (fun _ => true) true Tryd.f4.params.toList args.toList ds p := hA0
  have hA1 := hA
  rw [Tryd.params4] at hA hval hsz
  obtain ⟨v0, vs0, d0, ds0, p0, q0, hargs, rfl, rfl, h0, r0⟩ := trodAll_cons hA
  obtain ⟨v1, vs1, d1, ds1, p1, q1, rfl, rfl, rfl, h1, r1⟩ := trodAll_cons r0
  obtain ⟨rfl, rfl, rfl⟩ := trodAll_nil r1
  obtain rfl : args = #[v0, v1] := by cases args; simp_all
  obtain ⟨rfl, rfl⟩ := trodVars_none hV
  have hz : (DataW.weightsEach Tryd.prog [31, 9] [d0, d1]).all (· ≤ reachBytes) = true := hsz
  simp only [DataW.weightsEach, List.all_append, List.append_nil, Bool.and_eq_true] at hz
  obtain ⟨z0, z1⟩ := hz
  obtain ⟨fu0, t0⟩ := h0
  obtain ⟨a0, l0, s0, g0⟩ := opn0.op enc0 W fu0 _ _ t0 z0
  have c0 := vr_struct Tryd.underlying31 (hval 0 31 v0 rfl rfl) l0
  obtain ⟨fu1, t1⟩ := h1
  obtain ⟨a1, l1, s1, g1⟩ := opn1.op enc0 W fu1 _ _ t1 z1
  have c1 := vr_string Tryd.underlying9 (hval 1 9 v1 rfl rfl) l1
  have hz0 : ((begin Tryd.prog (fun _ _ => 0) default).world.heap[GM]?).bind Obj.row? = some (#[.int .i64 0], 3) := by kernel_rfl
  have hGM : GM < Tryd.prog.globals.size := of_decide_eq_true (by kernel_rfl)
  obtain ⟨mv, hmv⟩ := cell_of_shapedOpen_int hShp hGM hz0 rfl (by kernel_rfl) (by kernel_rfl) Tryd.underlying3
  have hmc : ∃ cs t, W.heap[GM]? = some (.cells cs t) ∧ cs.size = 1 := by
    obtain ⟨cs, k1, k2, _⟩ := hShp.1 GM _ _ hGM hz0
    exact ⟨cs, _, k1, k2⟩
  have hPT : PT (fun n => if n = GM then some ⟨[.int .i64 mv], false⟩ else none) := ⟨trivial, ⟨mv, if_pos rfl⟩⟩
  have hc := law_calls_g (H0 := fun n => if n = GM then some ⟨[.int .i64 mv], false⟩ else none) (G := GP + 1) (W4_ok [.agg (enc (a0)).toArray, .string (a1)] _ _ _ ⟨a0, a1, rfl, ⟨s0, s1, hPT, Nat.lt_succ_self _⟩, rfl⟩) W #[v0, v1] (sr_cons c0 (sr_cons c1 (sr_nil))) (fun n b hn => by
    by_cases e2 : n = GM
    · subst e2; rw [if_pos rfl] at hn; cases hn
      exact ⟨by decide, rfl, cellg_fact hmv hmc⟩
    rw [if_neg e2] at hn
    cases hn)
  refine hc.mono fun e W' ⟨he, hh, ho, hp⟩ => ?_
  subst he
  refine ⟨_, rfl, _, _, _, [], _, [], hW', trodAll_mk1 (shut_bool Tryd.underlying4 _), trodAll_stays kids sized hh (fun B hB => by simpa using hB) (by rw [Tryd.params4]; simp only [List.mem_cons, List.not_mem_nil, or_false]; intro t ht; rcases ht with rfl | rfl <;> exact of_decide_eq_true (by kernel_rfl)) hA1, rfl, kept_same hh ho hp _, fun h => by cases h⟩
theorem over : Rows.fnExactReadOrderRow.holds Tryd.pinned (OpenSpec.ofChange Rows.fnExactReadOrderSpec) :=
  OpenClaim.holds_of_wide 4 Tryd.f4 rfl rfl rfl rfl rfl rfl rfl ⟨rfl, rfl, rfl, rfl, rfl⟩ rfl rfl rfl rfl rfl (by kernel_rfl) Tryd.func4 (by kernel_rfl)
    (of_decide_eq_true (by kernel_rfl)) (by unfold Func.isWrapper; first | (rw [if_pos (by decide +kernel)]; kernel_rfl) | (rw [if_neg (by decide +kernel)]; exact ⟨rfl, rfl⟩))
    (fun os started H enc0 _ => lifted os started H enc0)
end Go.Proofs.YthhcemhignihlaaDoor.fnExactReadOrder
namespace Go.Proofs.YthhcemhignihlaaDoor
/-- The given statement. -/
theorem fnExactReadOrder_holds : Rows.FnExactReadOrderSaid := fnExactReadOrder.over
theorem fnExactReadOrderCard_holds : Rows.FnExactReadOrderCardSaid :=
  Claim7.holds_tied_plain_at .later [] [.data, .pinned] true Rows.fnExactReadOrderCard.stood.harness false fnExactReadOrder_holds (fun _ h => by cases h) (by kernel_rfl) (fun _ h => by cases h) fnExactReadOrder_row_tie rfl ⟨rfl, rfl⟩ (by kernel_rfl) rfl
    (fun f fn hf hfn => by
      obtain rfl : f = 4 := Option.some.inj ((show Tryd.prog.funcNamed Rows.fnExactReadOrderRow.func = some 4 by kernel_rfl).symm.trans hf) |>.symm
      obtain rfl : fn = Tryd.f4 := (Option.some.inj (Tryd.func4.symm.trans hfn)).symm
      exact ⟨by kernel_rfl, fun j t ht => by
        rw [Tryd.params4] at ht
        have hm : t ∈ [31, 9] := by simpa using Array.mem_of_getElem? ht
        have hall : ([31, 9].all fun u => !Tryd.prog.wantsStandIn u) = true := by kernel_rfl
        exact (show Tryd.prog.wantsStandIn t = false by simpa using List.all_eq_true.1 hall t hm)⟩)
    (by kernel_rfl)
end Go.Proofs.YthhcemhignihlaaDoor
