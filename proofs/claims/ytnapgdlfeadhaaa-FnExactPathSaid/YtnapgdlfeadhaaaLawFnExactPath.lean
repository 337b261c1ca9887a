/- FnExactPath: at every argument it answers as the specification, writes into no argument, keeps nothing of one; its answer owns its memory. -/
import Derived.Test.YtnapgdlfeadhaaaRows
import Derived.Test.YtnapgdlfeadhaaaVmV
import Derived.Test.YtnapgdlfeadhaaaQrl
import Derived.WalkKit
import Derived.ProofKit
import Derived.OpenShut
import Derived.ShutString
import Derived.ChangeOld
import Derived.Below
import Derived.SizedLaws
namespace Go.Proofs.Ytnapgdlfeadhaaa.fnExactPath
open Go.ChangeShapes Go.WideShapes Go.ChangeAt Go.RowKit
open Go.ChangeMaps (open_string shut_string)
open Vm
set_option linter.unusedVariables false
set_option linter.unusedSimpArgs false
theorem own : ownKnob Try.prog.godebug = none := by kernel_rfl
theorem laidOut : laidOutB Try.prog = true := by kernel_rfl
theorem plain : ([59, 32, 3] : List TypeId).all (fun t => plainT Try.prog 8 t) = true := by kernel_rfl
theorem tys : FnTys Try.prog 3 174 186 135 176 136 179 57 139 := ⟨by kernel_rfl, by kernel_rfl, by kernel_rfl, by kernel_rfl, by kernel_rfl, by kernel_rfl, by kernel_rfl, by kernel_rfl, by kernel_rfl, by kernel_rfl, by kernel_rfl, by kernel_rfl, by kernel_rfl⟩

theorem law (H : Hp) (ivs : List IV) (h0 : ∀ o ∈ H, o.rw = false) (hT : ArgsTy Try.prog H 8 [59, 32, 3] ivs) : CM 11 ivs H fun r => r.1 = .c (.b true) := by
  obtain ⟨iv, r, rfl, hA, hr⟩ := hT.cons_inv
  obtain ⟨cs, f, rfl, hf⟩ := arg_fn tys (by kernel_rfl) (by kernel_rfl) (by kernel_rfl) hA
  obtain ⟨iv0, r0, rfl, hA0, hr0⟩ := ArgsTy.cons_inv hr
  obtain ⟨v, ys, rfl, h3, h4⟩ := arg_ints (e := 3) (by kernel_rfl) tys.hi (by kernel_rfl) (by kernel_rfl) (by kernel_rfl) (by kernel_rfl) hA0
  obtain ⟨iv1, r1, rfl, hA1, hr1⟩ := ArgsTy.cons_inv hr0
  obtain ⟨n, rfl, hn⟩ := arg_int tys.hi (by kernel_rfl) (by kernel_rfl) hA1
  obtain rfl := ArgsTy.nil_inv hr1
  exact pathX_law hf h3
set_option maxRecDepth 100000 in
theorem lifted (os : Os) (started : os.Started) (H : Type) (enc : TypeId × Value → H) :
    ReturnsInHanded {} Try.checked os 11 .any (Rows.fnExactPathSpec.pre6 enc Try.prog Try.f11 Rows.fnExactPathRow.domain false) (Rows.fnExactPathSpec.post enc Try.prog Try.f11 false true false false) := by
  refine returnsInHanded_of_change_sized (C := Try.checked) own started (by kernel_rfl) Try.func11
    (ChangeSpec.witness6 (enc := enc) (C := Try.checked) false ⟨#[], #[.agg #[.slice none 0 0, .int .i64 0], .slice none 0 0, .int .i64 0], []⟩ 8 (by kernel_rfl) (by kernel_rfl) (by kernel_rfl) (by kernel_rfl)) ?_
  intro W base args ds gs before hval0 hW hcnd hsz0 _
  have hW' := hW
  obtain ⟨p, q, hA0, hV, rfl, hfz, hnd⟩ := hW
  have hts : Try.f11.params.toList = [59, 32, 3] := by rw [Try.params11]
  have hA : DataW.TrodAll enc Try.prog W 0 (fun _ => true) true [59, 32, 3] args.toList ds p := by rw [← hts]; exact hA0
  obtain ⟨rfl, rfl⟩ := trodVars_none hV
  refine (calls_law (P := Try.prog) (Checked.mixed Try.checked) okM (fun _ => noX_sim) (n := 8) (ts := [59, 32, 3]) (fun t ht => List.all_eq_true.1 plain t ht) law
    (fun j t v ht hv => hval0 j t v (by rw [← Array.getElem?_toList, hts]; exact ht) hv) hA).mono fun e W' ⟨he, bel⟩ => ?_
  subst he
  have hB := all_below (P := Try.prog) laidOut bel (ts := [59, 32, 3]) (by intro t ht; simp only [List.mem_cons, List.not_mem_nil, or_false] at ht; rcases ht with rfl | rfl | rfl <;> exact ⟨by kernel_rfl, of_decide_eq_true (by kernel_rfl)⟩) hA
  rw [← hts] at hB
  obtain ⟨v0, vs0, d0, ds0, p0, q0, _, rfl, rfl, _, r0⟩ := trodAll_cons hA
  obtain ⟨v1, vs1, d1, ds1, p1, q1, _, rfl, rfl, _, r1⟩ := trodAll_cons r0
  obtain ⟨v2, vs2, d2, ds2, p2, q2, _, rfl, rfl, _, r2⟩ := trodAll_cons r1
  obtain ⟨rfl, rfl, rfl⟩ := trodAll_nil r2
  exact ⟨_, rfl, _, _, _, [], _, [], hW', trodAll_mk1 (shut_bool Try.underlying4 _), hB, rfl, bel.frame _, fun h => by cases h⟩
theorem over : Rows.fnExactPathRow.holds Try.pinned (OpenSpec.ofChange Rows.fnExactPathSpec) :=
  OpenClaim.holds_of_wide 11 Try.f11 rfl rfl rfl rfl rfl rfl rfl ⟨rfl, rfl, rfl, rfl, rfl⟩ rfl rfl rfl rfl rfl (by kernel_rfl) Try.func11 (by kernel_rfl)
    (of_decide_eq_true (by kernel_rfl)) (by unfold Func.isWrapper; first | (rw [if_pos (by decide +kernel)]; kernel_rfl) | (rw [if_neg (by decide +kernel)]; exact ⟨rfl, rfl⟩))
    (fun os started H enc _ => lifted os started H enc)
theorem proved : Rows.FnExactPathSaid := over
#print axioms proved
end Go.Proofs.Ytnapgdlfeadhaaa.fnExactPath
namespace Go.Proofs.Ytnapgdlfeadhaaa
/-- The row, under a short name, for the claim. -/
theorem fnExactPath_holds : Rows.FnExactPathSaid := fnExactPath.proved
end Go.Proofs.Ytnapgdlfeadhaaa
