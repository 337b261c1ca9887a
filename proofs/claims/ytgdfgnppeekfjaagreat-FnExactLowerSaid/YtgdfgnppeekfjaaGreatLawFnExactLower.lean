/- FnExactLower: at every argument it answers as the specification, writes into no argument, keeps nothing of one; its answer owns its memory. -/
import Derived.Test.YtgdfgnppeekfjaaGreatRows
import Derived.Test.YtgdfgnppeekfjaaGreatVmV
import Derived.Test.YtgdfgnppeekfjaaGreatVmSo
import Derived.Test.YtgdfgnppeekfjaaGreatQyl
import Derived.WalkKit
import Derived.ProofKit
import Derived.OpenShut
import Derived.ShutString
import Derived.ChangeOld
import Derived.Below
import Derived.SizedLaws
namespace Go.Proofs.YtgdfgnppeekfjaaGreat.fnExactLower
open Go.ChangeShapes Go.WideShapes Go.ChangeAt Go.RowKit
open Go.ChangeMaps (open_string shut_string)
open Vm
set_option linter.unusedVariables false
set_option linter.unusedSimpArgs false
theorem own : ownKnob Tryz.prog.godebug = none := by kernel_rfl
theorem laidOut : laidOutB Tryz.prog = true := by kernel_rfl
theorem plain : ([54] : List TypeId).all (fun t => plainT Tryz.prog 8 t) = true := by kernel_rfl
theorem tys : FnTys Tryz.prog 3 214 233 150 216 151 219 52 154 := ⟨by kernel_rfl, by kernel_rfl, by kernel_rfl, by kernel_rfl, by kernel_rfl, by kernel_rfl, by kernel_rfl, by kernel_rfl, by kernel_rfl, by kernel_rfl, by kernel_rfl, by kernel_rfl, by kernel_rfl⟩
theorem law (H : Hp) (ivs : List IV) (h0 : ∀ o ∈ H, o.rw = false) (hT : ArgsTy Tryz.prog H 8 [54] ivs) : CM 15 ivs H fun r => r.1 = .c (.b true) := by
  obtain ⟨iv, r, rfl, hA, hr⟩ := hT.cons_inv
  obtain ⟨cs, f, rfl, hf⟩ := arg_fn tys (by kernel_rfl) (by kernel_rfl) (by kernel_rfl) hA
  obtain rfl := ArgsTy.nil_inv hr
  exact lowerX_law hf
set_option maxRecDepth 100000 in
theorem lifted (os : Os) (started : os.Started) (H : Type) (enc : TypeId × Value → H) :
    ReturnsInHanded {} Tryz.checked os 15 .any (Rows.fnExactLowerSpec.pre6 enc Tryz.prog Tryz.f15 Rows.fnExactLowerRow.domain false) (Rows.fnExactLowerSpec.post enc Tryz.prog Tryz.f15 false true false false) := by
  refine returnsInHanded_of_change_sized (C := Tryz.checked) own started (by kernel_rfl) Tryz.func15
    (ChangeSpec.witness6 (enc := enc) (C := Tryz.checked) false ⟨#[], #[.agg #[.slice none 0 0, .int .i64 0]], []⟩ 8 (by kernel_rfl) (by kernel_rfl) (by kernel_rfl) (by kernel_rfl)) ?_
  intro W base args ds gs before hval0 hW hcnd hsz0 _
  have hW' := hW
  obtain ⟨p, q, hA0, hV, rfl, hfz, hnd⟩ := hW
  have hts : Tryz.f15.params.toList = [54] := by rw [Tryz.params15]
  have hA : DataW.TrodAll enc Tryz.prog W 0 (fun _ => true) true [54] args.toList ds p := by rw [← hts]; exact hA0
  obtain ⟨rfl, rfl⟩ := trodVars_none hV
  refine (calls_law (P := Tryz.prog) (Checked.mixed Tryz.checked) okM (fun _ => XK_sim) (n := 8) (ts := [54]) (fun t ht => List.all_eq_true.1 plain t ht) law
    (fun j t v ht hv => hval0 j t v (by rw [← Array.getElem?_toList, hts]; exact ht) hv) hA).mono fun e W' ⟨he, bel⟩ => ?_
  subst he
  have hB := all_below (P := Tryz.prog) laidOut bel (ts := [54]) (by intro t ht; simp only [List.mem_cons, List.not_mem_nil, or_false] at ht; subst ht; exact ⟨by kernel_rfl, of_decide_eq_true (by kernel_rfl)⟩) hA
  rw [← hts] at hB
  obtain ⟨v0, vs0, d0, ds0, p0, q0, _, rfl, rfl, _, r0⟩ := trodAll_cons hA
  obtain ⟨rfl, rfl, rfl⟩ := trodAll_nil r0
  exact ⟨_, rfl, _, _, _, [], _, [], hW', trodAll_mk1 (shut_bool Tryz.underlying4 _), hB, rfl, bel.frame _, fun h => by cases h⟩
theorem andt {a b : Bool} (h1 : a = true) (h2 : b = true) : (a && b) = true := by rw [h1, h2]; rfl
set_option maxHeartbeats 20000000 in
theorem jf : joinedFacts Tryz.pinned.checked.prog 15 Tryz.f15 Rows.fnExactLowerSpec Rows.fnExactLowerRow = true := by
  unfold joinedFacts
  iterate 11 (with_reducible refine andt ?_ (by as_aux_lemma => kernel_rfl))
  as_aux_lemma => kernel_rfl
theorem over : Rows.fnExactLowerRow.holds Tryz.pinned (OpenSpec.ofChange Rows.fnExactLowerSpec) :=
  OpenClaim.holds_of_wide 15 Tryz.f15 rfl rfl rfl rfl rfl rfl rfl ⟨rfl, rfl, rfl, rfl, rfl⟩ rfl rfl rfl rfl rfl (by kernel_rfl) Tryz.func15 jf
    (of_decide_eq_true (by kernel_rfl)) (by unfold Func.isWrapper; first | (rw [if_pos (by decide +kernel)]; kernel_rfl) | (rw [if_neg (by decide +kernel)]; exact ⟨rfl, rfl⟩))
    (fun os started H enc _ => lifted os started H enc)
theorem proved : Rows.FnExactLowerSaid := over
#print axioms proved
end Go.Proofs.YtgdfgnppeekfjaaGreat.fnExactLower
namespace Go.Proofs.YtgdfgnppeekfjaaGreat
theorem fnExactLower_holds : Rows.FnExactLowerSaid := fnExactLower.proved
end Go.Proofs.YtgdfgnppeekfjaaGreat
