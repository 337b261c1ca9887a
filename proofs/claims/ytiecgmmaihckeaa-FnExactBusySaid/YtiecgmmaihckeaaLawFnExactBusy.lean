/- Busy: at every argument it answers as the specification, and writes into no argument. -/
import Derived.Test.YtiecgmmaihckeaaRows
import Derived.Test.YtiecgmmaihckeaaW5
import Derived.WalkKit
import Derived.ProofKit
import Derived.OpenShut
import Derived.ShutString
import Derived.ChangeOld
import Derived.Below
import Derived.SizedLaws
namespace Go.Proofs.Ytiecgmmaihckeaa.fnExactBusy
open Go.ChangeShapes Go.WideShapes Go.ChangeAt Go.RowKit
open Go.ChangeMaps (open_string shut_string)
open Vm
set_option linter.unusedVariables false
set_option linter.unusedSimpArgs false
theorem own : ownKnob Try.prog.godebug = none := by kernel_rfl
theorem laidOut : laidOutB Try.prog = true := by kernel_rfl
theorem plain : ([24] : List TypeId).all (fun t => plainT Try.prog 8 t) = true := by kernel_rfl
theorem tys : FnTys Try.prog 3 130 155 62 132 63 135 22 66 := ⟨by kernel_rfl, by kernel_rfl, by kernel_rfl, by kernel_rfl, by kernel_rfl, by kernel_rfl, by kernel_rfl, by kernel_rfl, by kernel_rfl, by kernel_rfl, by kernel_rfl, by kernel_rfl, by kernel_rfl⟩
theorem walk {H : Hp} {cs : List CV} {f : FnR} (hf : fnP maxLen H cs f) : CM 3 [.agg cs] H fun r => r.1 = .c (.b true) := by
  obtain ⟨z, rfl, hz⟩ := id hf
  refine cw3 ?_
  unfold vf3c
  obtain ⟨X1, hX1⟩ : ∃ X1, H ++ [(⟨[z, .i f.values], 0, true, 2⟩ : Ob)] = X1 := ⟨_, rfl⟩
  have hp1 : Pre H X1 := ⟨_, hX1.symm⟩
  have hb1 : rdOb X1 H.length 0 = some ⟨[z, .i f.values], 0, true, 2⟩ := by rw [← hX1]; simp
  have hf1 := hf.pre hp1
  simp [hX1, rdN_ob hb1, szFn_call hf1]
  by_cases hs : szFnF f 1048576 < 0
  · simp [hs]
  · have hS := sz_small (Int.not_lt.1 hs)
    simp [hs, rdN_ob hb1]
    refine (toFn_call _ (hf1.small hS)).mono ?_
    rintro _ ⟨c1, L1, rfl, ho1⟩
    obtain ⟨z1, rfl, h1, _⟩ := ho1.p hS
    obtain ⟨X2, hX2⟩ : ∃ X2, X1 ++ L1 = X2 := ⟨_, rfl⟩
    have hp2 : Pre X1 X2 := ⟨_, hX2.symm⟩
    rw [hX2] at h1 ⊢
    have hb2 := hp2.rdOb hb1
    simp [specBusy h1 hS.1, rdN_ob hb2]
    refine (toFn_call _ ((hf1.pre hp2).small hS)).mono ?_
    rintro _ ⟨c2, L2, rfl, ho2⟩
    obtain ⟨z2, rfl, h2, _⟩ := ho2.p hS
    obtain ⟨X3, hX3⟩ : ∃ X3, X2 ++ L2 = X3 := ⟨_, rfl⟩
    have hp3 : Pre X2 X3 := ⟨_, hX3.symm⟩
    rw [hX3] at h2 ⊢
    obtain ⟨X4, hX4⟩ : ∃ X4, X3 ++ [(⟨[z2, .i f.values], 0, true, 2⟩ : Ob)] = X4 := ⟨_, rfl⟩
    have hp4 : Pre X3 X4 := ⟨_, hX4.symm⟩
    have h4 : rdOb X4 X3.length 0 = some ⟨[z2, .i f.values], 0, true, 2⟩ := by rw [← hX4]; simp
    have hb4 := (hp3.trans hp4).rdOb hb2
    have h2' := Blocks.pre hp4 h2
    simp [putAt, hX4, rdN_ob h4, implBusy h2' hS.1, rdN_ob hb4]
    refine (toFn_call _ ((hf1.pre (hp2.trans (hp3.trans hp4))).small hS)).mono ?_
    rintro _ ⟨c3, L3, rfl, ho3⟩
    obtain ⟨z3, rfl, h3, _⟩ := ho3.p hS
    simp [eqFn_call _ (a := f) (b := f) ⟨_, rfl, Blocks.app h2' L3, hS.1⟩ ⟨_, rfl, h3, hS.1⟩, rdOb_app L3 h4, h4]

theorem law (H : Hp) (ivs : List IV) (h0 : ∀ o ∈ H, o.rw = false) (hT : ArgsTy Try.prog H 8 [24] ivs) : CM 3 ivs H fun r => r.1 = .c (.b true) := by
  obtain ⟨iv, r, rfl, hA, hr⟩ := hT.cons_inv
  obtain ⟨cs, f, rfl, hf⟩ := arg_fn tys (by kernel_rfl) (by kernel_rfl) (by kernel_rfl) hA
  obtain rfl := ArgsTy.nil_inv hr
  exact walk hf
set_option maxRecDepth 100000 in
theorem lifted (os : Os) (started : os.Started) (H : Type) (enc : TypeId × Value → H) :
    ReturnsInHanded {} Try.checked os 3 .any (Rows.fnExactBusySpec.pre6 enc Try.prog Try.f3 Rows.fnExactBusyRow.domain false) (Rows.fnExactBusySpec.post enc Try.prog Try.f3 false true false false) := by
  refine returnsInHanded_of_change_sized (C := Try.checked) own started (by kernel_rfl) Try.func3
    (ChangeSpec.witness6 (enc := enc) (C := Try.checked) false ⟨#[], #[.agg #[.slice none 0 0, .int .i64 0]], []⟩ 8 (by kernel_rfl) (by kernel_rfl) (by kernel_rfl) (by kernel_rfl)) ?_
  intro W base args ds gs before hval0 hW hcnd hsz0 _
  have hW' := hW
  obtain ⟨p, q, hA0, hV, rfl, hfz, hnd⟩ := hW
  have hts : Try.f3.params.toList = [24] := by rw [Try.params3]
  have hA : DataW.TrodAll enc Try.prog W 0 (fun _ => true) true [24] args.toList ds p := by rw [← hts]; exact hA0
  obtain ⟨rfl, rfl⟩ := trodVars_none hV
  refine (calls_law (P := Try.prog) (Checked.mixed Try.checked) okM (fun _ => XK_sim) (n := 8) (ts := [24]) (fun t ht => List.all_eq_true.1 plain t ht) law
    (fun j t v ht hv => hval0 j t v (by rw [← Array.getElem?_toList, hts]; exact ht) hv) hA).mono fun e W' ⟨he, bel⟩ => ?_
  subst he
  have hB := all_below (P := Try.prog) laidOut bel (ts := [24]) (by intro t ht; simp only [List.mem_cons, List.not_mem_nil, or_false] at ht; subst ht; exact ⟨by kernel_rfl, of_decide_eq_true (by kernel_rfl)⟩) hA
  rw [← hts] at hB
  obtain ⟨v0, vs0, d0, ds0, p0, q0, _, rfl, rfl, _, r0⟩ := trodAll_cons hA
  obtain ⟨rfl, rfl, rfl⟩ := trodAll_nil r0
  exact ⟨_, rfl, _, _, _, [], _, [], hW', trodAll_mk1 (shut_bool Try.underlying4 _), hB, rfl, bel.frame _, fun h => by cases h⟩
theorem andt {a b : Bool} (h1 : a = true) (h2 : b = true) : (a && b) = true := by rw [h1, h2]; rfl
set_option maxHeartbeats 20000000 in
theorem jf : joinedFacts Try.pinned.checked.prog 3 Try.f3 Rows.fnExactBusySpec Rows.fnExactBusyRow = true := by
  unfold joinedFacts
  iterate 11 (with_reducible refine andt ?_ (by as_aux_lemma => kernel_rfl))
  as_aux_lemma => kernel_rfl
theorem over : Rows.fnExactBusyRow.holds Try.pinned (OpenSpec.ofChange Rows.fnExactBusySpec) :=
  OpenClaim.holds_of_wide 3 Try.f3 rfl rfl rfl rfl rfl rfl rfl ⟨rfl, rfl, rfl, rfl, rfl⟩ rfl rfl rfl rfl rfl (by kernel_rfl) Try.func3 jf
    (of_decide_eq_true (by kernel_rfl)) (by unfold Func.isWrapper; first | (rw [if_pos (by decide +kernel)]; kernel_rfl) | (rw [if_neg (by decide +kernel)]; exact ⟨rfl, rfl⟩))
    (fun os started H enc _ => lifted os started H enc)
theorem proved : Rows.FnExactBusySaid := over
#print axioms proved
end Go.Proofs.Ytiecgmmaihckeaa.fnExactBusy
namespace Go.Proofs.Ytiecgmmaihckeaa
/-- The row, under a short name, for the claim. -/
theorem fnExactBusy_holds : Rows.FnExactBusySaid := fnExactBusy.proved
end Go.Proofs.Ytiecgmmaihckeaa
