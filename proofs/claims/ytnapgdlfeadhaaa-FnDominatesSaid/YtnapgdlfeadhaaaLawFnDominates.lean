/- FnDominates returns true at every row of bytes. -/
import Derived.Test.YtnapgdlfeadhaaaRows
import Derived.Test.YtnapgdlfeadhaaaVmV
import Derived.Test.YtnapgdlfeadhaaaQud
import Derived.WalkKit
import Derived.ProofKit
import Derived.OpenShut
import Derived.ShutString
import Derived.ChangeOld
import Derived.Below
import Derived.SizedLaws
namespace Go.Proofs.Ytnapgdlfeadhaaa.fnDominates
open Go.ChangeShapes Go.WideShapes Go.ChangeAt Go.RowKit
open Go.ChangeMaps (open_string shut_string)
open Vm
set_option linter.unusedVariables false
set_option linter.unusedSimpArgs false
theorem own : ownKnob Try.prog.godebug = none := by kernel_rfl
theorem laidOut : laidOutB Try.prog = true := by kernel_rfl
theorem plain : ([22] : List TypeId).all (fun t => plainT Try.prog 8 t) = true := by kernel_rfl
theorem tB : Try.prog.underlying 22 = some (.slice 5) ∧ Try.prog.underlying 5 = some (.int .u8) ∧ leafTs Try.prog 8 5 = some [5] ∧ Try.prog.cellsOf 5 = 1 := ⟨by kernel_rfl, by kernel_rfl, by kernel_rfl, by kernel_rfl⟩

theorem law (H : Hp) (ivs : List IV) (h0 : ∀ o ∈ H, o.rw = false) (hT : ArgsTy Try.prog H 8 [22] ivs) : CM 6 ivs H fun r => r.1 = .c (.b true) := by
  obtain ⟨iv, r, rfl, hA, hr⟩ := hT.cons_inv
  obtain ⟨v, xs, rfl, hv, hb⟩ := arg_bytes tB.1 tB.2.1 tB.2.2.1 tB.2.2.2 (by kernel_rfl) (by kernel_rfl) hA
  obtain rfl := ArgsTy.nil_inv hr
  exact dominates_law hv
set_option maxRecDepth 100000 in
theorem lifted (os : Os) (started : os.Started) (H : Type) (enc : TypeId × Value → H) :
    ReturnsInHanded {} Try.checked os 6 .any (Rows.fnDominatesSpec.pre6 enc Try.prog Try.f6 Rows.fnDominatesRow.domain false) (Rows.fnDominatesSpec.post enc Try.prog Try.f6 false true false false) := by
  refine returnsInHanded_of_change_sized (C := Try.checked) own started (by kernel_rfl) Try.func6
    (ChangeSpec.witness6 (enc := enc) (C := Try.checked) false ⟨#[], #[.slice none 0 0], []⟩ 8 (by kernel_rfl) (by kernel_rfl) (by kernel_rfl) (by kernel_rfl)) ?_
  intro W base args ds gs before hval0 hW hcnd hsz0 _
  have hW' := hW
  obtain ⟨p, q, hA0, hV, rfl, hfz, hnd⟩ := hW
  have hts : Try.f6.params.toList = [22] := by rw [Try.params6]
  have hA : DataW.TrodAll enc Try.prog W 0 (fun _ => true) true [22] args.toList ds p := by rw [← hts]; exact hA0
  obtain ⟨rfl, rfl⟩ := trodVars_none hV
  refine (calls_law (P := Try.prog) (Checked.mixed Try.checked) okM (fun _ => noX_sim) (n := 8) (ts := [22]) (fun t ht => List.all_eq_true.1 plain t ht) law
    (fun j t v ht hv => hval0 j t v (by rw [← Array.getElem?_toList, hts]; exact ht) hv) hA).mono fun e W' ⟨he, bel⟩ => ?_
  subst he
  have hB := all_below (P := Try.prog) laidOut bel (ts := [22]) (by intro t ht; simp only [List.mem_cons, List.not_mem_nil, or_false] at ht; subst ht; exact ⟨by kernel_rfl, of_decide_eq_true (by kernel_rfl)⟩) hA
  rw [← hts] at hB
  obtain ⟨v0, vs0, d0, ds0, p0, q0, _, rfl, rfl, _, r0⟩ := trodAll_cons hA
  obtain ⟨rfl, rfl, rfl⟩ := trodAll_nil r0
  exact ⟨_, rfl, _, _, _, [], _, [], hW', trodAll_mk1 (shut_bool Try.underlying4 _), hB, rfl, bel.frame _, fun h => by cases h⟩
theorem over : Rows.fnDominatesRow.holds Try.pinned (OpenSpec.ofChange Rows.fnDominatesSpec) :=
  OpenClaim.holds_of_wide 6 Try.f6 rfl rfl rfl rfl rfl rfl rfl ⟨rfl, rfl, rfl, rfl, rfl⟩ rfl rfl rfl rfl rfl (by kernel_rfl) Try.func6 (by kernel_rfl)
    (of_decide_eq_true (by kernel_rfl)) (by unfold Func.isWrapper; first | (rw [if_pos (by decide +kernel)]; kernel_rfl) | (rw [if_neg (by decide +kernel)]; exact ⟨rfl, rfl⟩))
    (fun os started H enc _ => lifted os started H enc)
theorem proved : Rows.FnDominatesSaid := over
#print axioms proved
end Go.Proofs.Ytnapgdlfeadhaaa.fnDominates
namespace Go.Proofs.Ytnapgdlfeadhaaa
/-- The row, under a short name, for the claim. -/
theorem fnDominates_holds : Rows.FnDominatesSaid := fnDominates.proved
end Go.Proofs.Ytnapgdlfeadhaaa
