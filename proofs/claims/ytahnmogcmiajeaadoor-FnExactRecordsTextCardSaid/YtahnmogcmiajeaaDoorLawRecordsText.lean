/- FnExactRecordsText: the given statement: whatever the arguments, the law is true. Out of the contract of its function. -/
import Derived.Test.YtahnmogcmiajeaaDoorRows
import Derived.Test.YtahnmogcmiajeaaDoorA2
import Derived.Test.YtahnmogcmiajeaaDoorScO
import Derived.Test.YtahnmogcmiajeaaDoorTie
import Derived.Test.YtahnmogcmiajeaaDoorCards
import Derived.WalkKit
import Derived.ProofKit
import Derived.OpenShut
import Derived.ShutString
import Derived.ChangeOld
import Derived.Below
import Derived.SizedLaws
import Derived.ChangeBears
import Derived.LaidMore
import Derived.Lay
import Derived.Stop.LaidErr
import Derived.Lib.LaidTab
import Derived.SevenTiedAt
import Derived.Stop.Joined
set_option linter.unusedVariables false
set_option linter.unusedSimpArgs false
set_option maxRecDepth 100000
namespace Go.Proofs.YtahnmogcmiajeaaDoor.fnExactRecordsText
open Go Go.SC Go.ChangeShapes Go.WideShapes Go.ChangeAt Go.RowKit
open Go.ChangeMaps (open_string shut_string)
theorem own : ownKnob Tryd.prog.godebug = none := by kernel_rfl
theorem kids : Kids Tryd.prog (· < Tryd.prog.types.size) := kids_rows (by kernel_rfl) (by kernel_rfl)
theorem sized {t e : TypeId} (ht : t < Tryd.prog.types.size) (hu : Tryd.prog.underlying t = some (.slice e)) : 0 < Tryd.prog.cellsOf e := by
  have hall : (List.range Tryd.prog.types.size).all (fun t => match Tryd.prog.underlying t with | some (.slice e) => decide (0 < Tryd.prog.cellsOf e) | _ => true) = true := by kernel_rfl
  have h := List.all_eq_true.1 hall t (List.mem_range.2 ht)
  rw [hu] at h
  exact of_decide_eq_true h
theorem opn0 : Opn Tryd.prog 24 GSignature := (opn_struct (fun x : GSignature => x.symbols) (fun y => GSignature.mk y) (fun _ => rfl) (fun _ => rfl) (fun _ h => h) (fun _ h => h) Tryd.underlying24 (by kernel_rfl) rfl (of_decide_eq_true (by kernel_rfl)) (OpnL.one (opn_list (opn_struct (fun x : GSymbol => (x.name, x.arity)) (fun y => GSymbol.mk y.1 y.2) (fun _ => rfl) (fun _ => rfl) (fun _ h => h) (fun _ h => h) Tryd.underlying63 (by kernel_rfl) rfl (of_decide_eq_true (by kernel_rfl)) (OpnL.cons (opn_str Tryd.underlying9 (by kernel_rfl) (of_decide_eq_true (by kernel_rfl))) rfl rfl (OpnL.one (opn_int Tryd.underlying2 (by kernel_rfl) (of_decide_eq_true (by kernel_rfl))) rfl))) Tryd.underlying22 (by kernel_rfl) (of_decide_eq_true (by kernel_rfl))) rfl))
theorem opn1 : Opn Tryd.prog 25 (List GRecord) := (opn_list (opn_struct (fun x : GRecord => (x.term, x.value)) (fun y => GRecord.mk y.1 y.2) (fun _ => rfl) (fun _ => rfl) (fun _ h => h) (fun _ h => h) Tryd.underlying45 (by kernel_rfl) rfl (of_decide_eq_true (by kernel_rfl)) (OpnL.cons (opn_list (opn_int Tryd.underlying2 (by kernel_rfl) (of_decide_eq_true (by kernel_rfl))) Tryd.underlying43 (by kernel_rfl) (of_decide_eq_true (by kernel_rfl))) rfl rfl (OpnL.one (opn_int Tryd.underlying2 (by kernel_rfl) (of_decide_eq_true (by kernel_rfl))) rfl))) Tryd.underlying25 (by kernel_rfl) (of_decide_eq_true (by kernel_rfl)))
theorem lifted (os : Os) (started : os.Started) (H : Type) (enc0 : TypeId × Value → H) :
    ReturnsInHanded {} Tryd.checked os 3 .any (fun w args => (Rows.fnExactRecordsTextSpec.pre enc0 Tryd.prog Tryd.f3 Rows.fnExactRecordsTextRow.domain false w args ∧ laidMetH Tryd.prog Rows.fnExactRecordsTextRow.laid w) ∧ sizedMet enc0 Tryd.prog Tryd.f3 (OpenSpec.ofChange Rows.fnExactRecordsTextSpec) false w args)
      (Rows.fnExactRecordsTextSpec.post enc0 Tryd.prog Tryd.f3 false true false false) := by
  refine returnsInHanded_of_change_and (C := Tryd.checked) (X := fun w _ => laidMetH Tryd.prog Rows.fnExactRecordsTextRow.laid w) (fun _ _ _ hh h => h.of_heap hh) own started (by kernel_rfl) Tryd.func3
    (ChangeSpec.witness_shaped (enc := enc0) (C := Tryd.checked) (os := os) (X := fun w _ => laidMetH Tryd.prog Rows.fnExactRecordsTextRow.laid w) false (World.laidAll Tryd.prog os Rows.fnExactRecordsTextRow.laid) #[(Value.agg #[Value.slice none 0 0]), (Value.slice none 0 0)] 64 (World.laidAll_os _ _ _)
      (World.shaped_of_ZipB (by kernel_rfl) (by kernel_rfl)) (by kernel_rfl) (by kernel_rfl) (by kernel_rfl)
      (by rw [MakeChecks.laidMetH_plain _ _ _ (by kernel_rfl)]; exact laidMet_laidAll _ (by kernel_rfl) (by kernel_rfl))) ?_
  intro W base args ds gs before hval0 hW hcnd hsz0 hL _
  have hsz : (DataW.weightsEach Tryd.prog (Tryd.f3.params.toList ++ Rows.fnExactRecordsTextSpec.plain.varTypes Tryd.prog) (ds ++ gs)).all (· ≤ reachBytes) = true := hsz0
  have hval : ∀ (j : Nat) t v, Tryd.f3.params[j]? = some t → args[j]? = some v → Value.okWide Tryd.prog W .any base t v := hval0
  have hW' := hW
  obtain ⟨p, q, hA0, hV, rfl, hfz, hnd⟩ := hW
  have hA : DataW.TrodAll enc0 Tryd.prog W 0 (fun _ => true) true Tryd.f3.params.toList args.toList ds p := hA0
  have hA1 := hA
  rw [Tryd.params3] at hA hval hsz
  obtain ⟨v0, vs0, d0, ds0, p0, q0, hargs, rfl, rfl, h0, r0⟩ := trodAll_cons hA
  obtain ⟨v1, vs1, d1, ds1, p1, q1, rfl, rfl, rfl, h1, r1⟩ := trodAll_cons r0
  obtain ⟨rfl, rfl, rfl⟩ := trodAll_nil r1
  obtain rfl : args = #[v0, v1] := by cases args; simp_all
  obtain ⟨rfl, rfl⟩ := trodVars_none hV
  have hz : (DataW.weightsEach Tryd.prog [24, 25] [d0, d1]).all (· ≤ reachBytes) = true := hsz
  simp only [DataW.weightsEach, List.all_append, List.append_nil, Bool.and_eq_true] at hz
  obtain ⟨z0, z1⟩ := hz
  obtain ⟨fu0, t0⟩ := h0
  obtain ⟨a0, l0, s0, g0⟩ := opn0.op enc0 W fu0 _ _ t0 z0
  have c0 := vr_struct Tryd.underlying24 (hval 0 24 v0 rfl rfl) l0
  obtain ⟨fu1, t1⟩ := h1
  obtain ⟨a1, l1, s1, g1⟩ := opn1.op enc0 W fu1 _ _ t1 z1
  have c1 := vr_slice Tryd.underlying25 (hval 1 25 v1 rfl rfl) l1
  rw [MakeChecks.laidMetH_plain _ _ _ (by kernel_rfl)] at hL
  have hL2 : laidMet Tryd.prog [("math/bits.deBruijn32tab", Rows.laid_math_bits_deBruijn32tab), ("math/bits.deBruijn64tab", Rows.laid_math_bits_deBruijn64tab), ("internal/strconv.uint64pow10", Rows.laid_internal_strconv_uint64pow10), ("unicode/utf8.acceptRanges", Rows.laid_unicode_utf8_acceptRanges), ("unicode/utf8.first", Rows.laid_unicode_utf8_first)] W := hL
  have hL3 : laidMet Tryd.prog (("internal/strconv.uint64pow10", Lib.tabData .u64 Lib.pow10Tab) :: [("unicode/utf8.acceptRanges", Rows.laid_unicode_utf8_acceptRanges), ("unicode/utf8.first", Rows.laid_unicode_utf8_first)]) W := hL2.tail.tail
  have hTab := Lib.tabIs_of_head (t := 122) (e := 108) (n := 20) gGP (by kernel_rfl) (by kernel_rfl) (by kernel_rfl) (by kernel_rfl) (by kernel_rfl) hL3
  have hPT : PT (fun n => if n = GP then some ⟨Lib.pow10Tab.map (Value.int .u64), false⟩ else none) := if_pos rfl
  have hc := law_calls_g (H0 := fun n => if n = GP then some ⟨Lib.pow10Tab.map (Value.int .u64), false⟩ else none) (G := GP + 1) (W3_ok [.agg (enc (a0)).toArray, lst (a1)] _ _ _ ⟨a0, a1, rfl, ⟨s0, s1, g1, hPT, Nat.lt_succ_self _⟩, rfl⟩) W #[v0, v1] (sr_cons c0 (sr_cons c1 (sr_nil))) (fun n b hn => by
    by_cases e : n = GP
    · subst e; rw [if_pos rfl] at hn; cases hn
      exact ⟨Nat.lt_succ_self _, rfl, tab_cells hTab gGP⟩
    · rw [if_neg e] at hn; cases hn)
  refine hc.mono fun e W' ⟨he, hh, ho, hp⟩ => ?_
  subst he
  refine ⟨_, rfl, _, _, _, [], _, [], hW', trodAll_mk1 (shut_bool Tryd.underlying4 _), trodAll_stays kids sized hh (fun B hB => by simpa using hB) (by rw [Tryd.params3]; simp only [List.mem_cons, List.not_mem_nil, or_false]; intro t ht; rcases ht with rfl | rfl <;> exact of_decide_eq_true (by kernel_rfl)) hA1, rfl, kept_same hh ho hp _, fun h => by cases h⟩
theorem over : Rows.fnExactRecordsTextRow.holds Tryd.pinned (OpenSpec.ofChange Rows.fnExactRecordsTextSpec) :=
  OpenClaim.holds_of_wide 3 Tryd.f3 rfl rfl rfl rfl rfl rfl rfl ⟨rfl, rfl, rfl, rfl, rfl⟩ rfl rfl rfl rfl rfl (by kernel_rfl) Tryd.func3 (by kernel_rfl)
    (of_decide_eq_true (by kernel_rfl)) (by unfold Func.isWrapper; first | (rw [if_pos (by decide +kernel)]; kernel_rfl) | (rw [if_neg (by decide +kernel)]; exact ⟨rfl, rfl⟩))
    (fun os started H enc0 _ => lifted os started H enc0)
end Go.Proofs.YtahnmogcmiajeaaDoor.fnExactRecordsText
namespace Go.Proofs.YtahnmogcmiajeaaDoor
/-- The given statement. -/
theorem fnExactRecordsText_holds : Rows.FnExactRecordsTextSaid := fnExactRecordsText.over
theorem fnExactRecordsTextCard_holds : Rows.FnExactRecordsTextCardSaid :=
  Claim7.holds_tied_plain_at .later [] [.data, .data, .data, .data, .pinned] true Rows.fnExactRecordsTextCard.stood.harness false fnExactRecordsText_holds (fun _ h => by cases h) (by kernel_rfl) (fun _ h => by cases h) fnExactRecordsText_row_tie rfl ⟨rfl, rfl⟩ (by kernel_rfl) rfl
    (fun f fn hf hfn => by
      obtain rfl : f = 3 := Option.some.inj ((show Tryd.prog.funcNamed Rows.fnExactRecordsTextRow.func = some 3 by kernel_rfl).symm.trans hf) |>.symm
      obtain rfl : fn = Tryd.f3 := (Option.some.inj (Tryd.func3.symm.trans hfn)).symm
      exact ⟨by kernel_rfl, fun j t ht => by
        rw [Tryd.params3] at ht
        have hm : t ∈ [24, 25] := by simpa using Array.mem_of_getElem? ht
        have hall : ([24, 25].all fun u => !Tryd.prog.wantsStandIn u) = true := by kernel_rfl
        exact (show Tryd.prog.wantsStandIn t = false by simpa using List.all_eq_true.1 hall t hm)⟩)
    (by kernel_rfl)
end Go.Proofs.YtahnmogcmiajeaaDoor
