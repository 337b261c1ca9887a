/- Sequence: at every argument it answers as the specification, writes into no argument, keeps nothing of one; its answer owns its memory. -/
import Derived.Test.YtnpbldjbfkpbcaaRows
import Derived.Test.YtnpbldjbfkpbcaaVmV
import Derived.Test.YtnpbldjbfkpbcaaQhe
import Derived.WalkKit
import Derived.ProofKit
import Derived.OpenShut
import Derived.ShutString
import Derived.ChangeOld
import Derived.Below
import Derived.SizedLaws
namespace Go.Proofs.Ytnpbldjbfkpbcaa.fnExactSequence
open Go.ChangeShapes Go.WideShapes Go.ChangeAt Go.RowKit
open Go.ChangeMaps (open_string shut_string)
open Vm
set_option linter.unusedVariables false
set_option linter.unusedSimpArgs false
theorem own : ownKnob Try.prog.godebug = none := by kernel_rfl
theorem laidOut : laidOutB Try.prog = true := by kernel_rfl
theorem plain : ([41, 3] : List TypeId).all (fun t => plainT Try.prog 8 t) = true := by kernel_rfl
theorem tInt : Try.prog.underlying 3 = some (.int .i64) := by kernel_rfl
theorem tMv : Try.prog.underlying 41 = some (.slice 112) ∧ leafTs Try.prog 8 112 = some [3, 3] ∧ Try.prog.cellsOf 112 = 2 := ⟨by kernel_rfl, by kernel_rfl, by kernel_rfl⟩

theorem law (H : Hp) (ivs : List IV) (h0 : ∀ o ∈ H, o.rw = false) (hT : ArgsTy Try.prog H 8 [41, 3] ivs) : callD M noX 12 ivs H fun r => r.1 = .c (.b true) := by
  obtain ⟨iv, r, rfl, hA, hr⟩ := hT.cons_inv
  obtain ⟨c, rfl, hl⟩ := hA.one (by kernel_rfl) (by kernel_rfl)
  obtain ⟨xs, h1, h2⟩ := leaf_row (R := armP) tMv.1 tMv.2.1 tMv.2.2 (fun cs hl hc => by
    match cs, hl with
    | [a, b], _ =>
      obtain ⟨a, rfl⟩ := leaf_int tInt (hc 0 _ a rfl rfl)
      obtain ⟨b, rfl⟩ := leaf_int tInt (hc 1 _ b rfl rfl)
      exact ⟨⟨a, b⟩, rfl⟩) hl
  obtain ⟨iv0, r0, rfl, hA0, hr0⟩ := ArgsTy.cons_inv hr
  obtain ⟨n, rfl, hn0⟩ := arg_int tInt (by kernel_rfl) (by kernel_rfl) hA0
  obtain rfl := ArgsTy.nil_inv hr0
  exact sequenceX_law h1 h2
set_option maxRecDepth 100000 in
theorem lifted (os : Os) (started : os.Started) (H : Type) (enc : TypeId × Value → H) :
    ReturnsInHanded {} Try.checked os 12 .any (Rows.fnExactSequenceSpec.pre6 enc Try.prog Try.f12 Rows.fnExactSequenceRow.domain false) (Rows.fnExactSequenceSpec.post enc Try.prog Try.f12 false true false false) := by
  refine returnsInHanded_of_change_sized (C := Try.checked) own started (by kernel_rfl) Try.func12
    (ChangeSpec.witness6 (enc := enc) (C := Try.checked) false ⟨#[], #[.slice none 0 0, .int .i64 0], []⟩ 8 (by kernel_rfl) (by kernel_rfl) (by kernel_rfl) (by kernel_rfl)) ?_
  intro W base args ds gs before hval0 hW hcnd hsz0 _
  have hW' := hW
  obtain ⟨p, q, hA0, hV, rfl, hfz, hnd⟩ := hW
  have hts : Try.f12.params.toList = [41, 3] := by rw [Try.params12]
  have hA : DataW.TrodAll enc Try.prog W 0 (fun _ => true) true [41, 3] args.toList ds p := by rw [← hts]; exact hA0
  obtain ⟨rfl, rfl⟩ := trodVars_none hV
  refine (calls_law (P := Try.prog) (Checked.mixed Try.checked) okM (fun _ => noX_sim) (n := 8) (ts := [41, 3]) (fun t ht => List.all_eq_true.1 plain t ht) law
    (fun j t v ht hv => hval0 j t v (by rw [← Array.getElem?_toList, hts]; exact ht) hv) hA).mono fun e W' ⟨he, bel⟩ => ?_
  subst he
  have hB := all_below (P := Try.prog) laidOut bel (ts := [41, 3]) (by intro t ht; simp only [List.mem_cons, List.not_mem_nil, or_false] at ht; rcases ht with rfl | rfl <;> exact ⟨by kernel_rfl, of_decide_eq_true (by kernel_rfl)⟩) hA
  rw [← hts] at hB
  obtain ⟨v0, vs0, d0, ds0, p0, q0, _, rfl, rfl, _, r0⟩ := trodAll_cons hA
  obtain ⟨v1, vs1, d1, ds1, p1, q1, _, rfl, rfl, _, r1⟩ := trodAll_cons r0
  obtain ⟨rfl, rfl, rfl⟩ := trodAll_nil r1
  exact ⟨_, rfl, _, _, _, [], _, [], hW', trodAll_mk1 (shut_bool Try.underlying4 _), hB, rfl, bel.frame _, fun h => by cases h⟩
theorem over : Rows.fnExactSequenceRow.holds Try.pinned (OpenSpec.ofChange Rows.fnExactSequenceSpec) :=
  OpenClaim.holds_of_wide 12 Try.f12 rfl rfl rfl rfl rfl rfl rfl ⟨rfl, rfl, rfl, rfl, rfl⟩ rfl rfl rfl rfl rfl (by kernel_rfl) Try.func12 (by kernel_rfl)
    (of_decide_eq_true (by kernel_rfl)) (by unfold Func.isWrapper; first | (rw [if_pos (by decide +kernel)]; kernel_rfl) | (rw [if_neg (by decide +kernel)]; exact ⟨rfl, rfl⟩))
    (fun os started H enc _ => lifted os started H enc)
theorem proved : Rows.FnExactSequenceSaid := over
#print axioms proved
end Go.Proofs.Ytnpbldjbfkpbcaa.fnExactSequence
namespace Go.Proofs.Ytnpbldjbfkpbcaa
/-- The row, under a short name, for the claim. -/
theorem fnExactSequence_holds : Rows.FnExactSequenceSaid := fnExactSequence.proved
end Go.Proofs.Ytnpbldjbfkpbcaa
