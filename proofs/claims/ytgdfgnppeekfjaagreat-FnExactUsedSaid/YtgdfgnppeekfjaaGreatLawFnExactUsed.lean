/- Used: at every argument it answers as the specification, writes into no argument, keeps nothing of one; its answer owns its memory. -/
import Derived.Test.YtgdfgnppeekfjaaGreatRows
import Derived.Test.YtgdfgnppeekfjaaGreatVmV
import Derived.Test.YtgdfgnppeekfjaaGreatVmSo
import Derived.Test.YtgdfgnppeekfjaaGreatP1
import Derived.Test.YtgdfgnppeekfjaaGreatP2
import Derived.Test.YtgdfgnppeekfjaaGreatQcw
import Derived.WalkKit
import Derived.ProofKit
import Derived.OpenShut
import Derived.ShutString
import Derived.ChangeOld
import Derived.Below
import Derived.SizedLaws
namespace Go.Proofs.YtgdfgnppeekfjaaGreat.fnExactUsed
open Go.ChangeShapes Go.WideShapes Go.ChangeAt Go.RowKit
open Go.ChangeMaps (open_string shut_string)
open Vm
set_option linter.unusedVariables false
set_option linter.unusedSimpArgs false
theorem own : ownKnob Tryz.prog.godebug = none := by kernel_rfl
theorem laidOut : laidOutB Tryz.prog = true := by kernel_rfl
theorem plain : ([54] : List TypeId).all (fun t => plainT Tryz.prog 8 t) = true := by kernel_rfl
theorem tys : FnTys Tryz.prog 3 214 233 150 216 151 219 52 154 := ⟨by kernel_rfl, by kernel_rfl, by kernel_rfl, by kernel_rfl, by kernel_rfl, by kernel_rfl, by kernel_rfl, by kernel_rfl, by kernel_rfl, by kernel_rfl, by kernel_rfl, by kernel_rfl, by kernel_rfl⟩
theorem walk {H : Hp} {cs : List CV} {f : FnR} (hf : fnP maxLen H cs f) : CM 6 [.agg cs] H fun r => r.1 = .c (.b true) := by
  obtain ⟨z, rfl, hz⟩ := id hf
  refine cw6 ?_
  unfold vf6c
  obtain ⟨X1, hX1⟩ : ∃ X1, H ++ [(⟨[z, .i f.values], 0, true, 2⟩ : Ob)] = X1 := ⟨_, rfl⟩
  have hp1 : Pre H X1 := ⟨_, hX1.symm⟩
  have hb1 : rdOb X1 H.length 0 = some ⟨[z, .i f.values], 0, true, 2⟩ := by rw [← hX1]; simp
  have hf1 := hf.pre hp1
  simp [hX1, rdN_ob hb1, szFn_call hf1]
  by_cases hs : szFnF f 1048576 < 0
  · simp [hs]
  · have hS := sz_small (Int.not_lt.1 hs)
    have hle : (used0 f).length ≤ BIG := used0_le hS.1
    have hlt : ¬ (1 + ((used0 f).length : Int) < 0) := by omega
    simp [hs, rdN_ob hb1]
    refine (toFn_call _ (hf1.small hS)).mono ?_
    rintro _ ⟨c1, L1, rfl, ho1⟩
    obtain ⟨z1, rfl, h1, _⟩ := ho1.p hS
    obtain ⟨X2, hX2⟩ : ∃ X2, X1 ++ L1 = X2 := ⟨_, rfl⟩
    have hp2 : Pre X1 X2 := ⟨_, hX2.symm⟩
    rw [hX2] at h1 ⊢
    obtain ⟨w0, Lw, hw0, hspec⟩ := specUsed h1 hS.1
    obtain ⟨X3, hX3⟩ : ∃ X3, X2 ++ Lw = X3 := ⟨_, rfl⟩
    have hp3 : Pre X2 X3 := ⟨_, hX3.symm⟩
    have hw3 := hw0.isL
    rw [hX3] at hw3
    have hb3 := (hp2.trans hp3).rdOb hb1
    simp [hspec, hX3, rdN_ob hb3]
    refine (toFn_call _ ((hf1.pre (hp2.trans hp3)).small hS)).mono ?_
    rintro _ ⟨c2, L2, rfl, ho2⟩
    have hm2 := ho2.m hS
    obtain ⟨z2, rfl, h2, _⟩ := ho2.p hS
    obtain ⟨X4, hX4⟩ : ∃ X4, X3 ++ L2 = X4 := ⟨_, rfl⟩
    have hp4 : Pre X3 X4 := ⟨_, hX4.symm⟩
    rw [hX4] at h2 hm2 ⊢
    obtain ⟨X5, hX5⟩ : ∃ X5, X4 ++ [(⟨[z2, .i f.values], 0, true, 2⟩ : Ob)] = X5 := ⟨_, rfl⟩
    have hp5 : Pre X4 X5 := ⟨_, hX5.symm⟩
    have h5 : rdOb X5 X4.length 0 = some ⟨[z2, .i f.values], 0, true, 2⟩ := by rw [← hX5]; simp
    have h2' := Blocks.pre hp5 h2
    obtain ⟨g0, Lg, hg0, himpl⟩ := implUsed h2' hS.1
    obtain ⟨X6, hX6⟩ : ∃ X6, X5 ++ Lg = X6 := ⟨_, rfl⟩
    have hp6 : Pre X5 X6 := ⟨_, hX6.symm⟩
    have hg6 := hg0.own
    rw [hX6] at hg6
    have hp36 := hp4.trans (hp5.trans hp6)
    have hb6 := hp36.rdOb hb3
    have h6 := hp6.rdOb h5
    simp [putAt, hX5, rdN_ob h5, himpl, hX6, eqBoolS_call hg6.isL (hw3.pre hp36) hle, rdN_ob h6, rdN_ob hb6]
    refine (toFn_call _ ((hf1.pre (hp2.trans (hp3.trans hp36))).small hS)).mono ?_
    rintro _ ⟨c3, L3, rfl, ho3⟩
    obtain ⟨z3, rfl, h3, _⟩ := ho3.p hS
    obtain ⟨X7, hX7⟩ : ∃ X7, X6 ++ L3 = X7 := ⟨_, rfl⟩
    have hp7 : Pre X6 X7 := ⟨_, hX7.symm⟩
    rw [hX7] at h3 ⊢
    have h7 := hp7.rdOb h6
    have hb7 := hp7.rdOb hb6
    simp [eqFn_call _ (a := f) (b := f) ⟨_, rfl, Blocks.pre hp7 (Blocks.pre hp6 h2'), hS.1⟩ ⟨_, rfl, h3, hS.1⟩, h7, h6, rdN_ob h7]
    obtain ⟨G7, hG7⟩ : ∃ G, X7 = X4 ++ G := hp5.trans (hp6.trans hp7)
    have hm7 := hm2.app G7
    rw [← hG7] at hm7
    refine (markFn_weak hm7 (hp5.trans (hp6.trans hp7)).le hp4.le).mono ?_
    rintro _ ⟨k, Z, L4, rfl, hk, hZ⟩
    have hg7 := hg6.keep (Z := X7) fun _ _ _ _ h => hp7.rdOb h
    have hgZ := hg7.keep (Z := Z ++ L4) fun id g o hl ho => rdOb_app _ (hZ.out id g o (.inr (Nat.le_trans hp5.le hl)) ho)
    have hp37 := hp36.trans hp7
    have hpZ : Pre X3 (Z ++ L4) := (hZ.low.pre hp37 (Nat.le_refl _)).app L4
    obtain ⟨Y1, hY1⟩ : ∃ Y1, Z ++ L4 = Y1 := ⟨_, rfl⟩
    rw [hY1] at hgZ hpZ ⊢
    obtain ⟨Y2, hmark, _, hlow, hg2⟩ := markBoolS_own hgZ hle
    have hpY2 : Pre X3 Y2 := hlow.pre hpZ (hp4.trans hp5).le
    have hbY := hpY2.rdOb hb3
    simp [show ¬ k < 0 by omega, eqBoolS_call hgZ.isL (hw3.pre hpZ) hle, hmark, heldBoolS_call hg2.isL hle, hlt, rdN_ob hbY]
    refine (toFn_call _ ((hf1.pre (hp2.trans (hp3.trans hpY2))).small hS)).mono ?_
    rintro _ ⟨c5, L5, rfl, ho5⟩
    obtain ⟨z5, rfl, h5', _⟩ := ho5.p hS
    obtain ⟨Y3, hY3⟩ : ∃ Y3, Y2 ++ L5 = Y3 := ⟨_, rfl⟩
    have hpY3 : Pre Y2 Y3 := ⟨_, hY3.symm⟩
    rw [hY3] at h5' ⊢
    obtain ⟨h0, L6, hh0, himpl2⟩ := implUsed h5' hS.1
    obtain ⟨Y4, hY4⟩ : ∃ Y4, Y3 ++ L6 = Y4 := ⟨_, rfl⟩
    have hpY4 : Pre Y3 Y4 := ⟨_, hY4.symm⟩
    have hh4 := hh0.isL
    rw [hY4] at hh4
    have hg4 := hg2.keep (Z := Y4) fun _ _ _ _ h => (hpY3.trans hpY4).rdOb h
    simp [himpl2, hY4, eqBoolS_call hh4 (hw3.pre (hpY2.trans (hpY3.trans hpY4))) hle, heldBoolS_call hg4.isL hle, hlt]

theorem law (H : Hp) (ivs : List IV) (h0 : ∀ o ∈ H, o.rw = false) (hT : ArgsTy Tryz.prog H 8 [54] ivs) : CM 6 ivs H fun r => r.1 = .c (.b true) := by
  obtain ⟨iv, r, rfl, hA, hr⟩ := hT.cons_inv
  obtain ⟨cs, f, rfl, hf⟩ := arg_fn tys (by kernel_rfl) (by kernel_rfl) (by kernel_rfl) hA
  obtain rfl := ArgsTy.nil_inv hr
  exact walk hf
set_option maxRecDepth 100000 in
theorem lifted (os : Os) (started : os.Started) (H : Type) (enc : TypeId × Value → H) :
    ReturnsInHanded {} Tryz.checked os 6 .any (Rows.fnExactUsedSpec.pre6 enc Tryz.prog Tryz.f6 Rows.fnExactUsedRow.domain false) (Rows.fnExactUsedSpec.post enc Tryz.prog Tryz.f6 false true false false) := by
  refine returnsInHanded_of_change_sized (C := Tryz.checked) own started (by kernel_rfl) Tryz.func6
    (ChangeSpec.witness6 (enc := enc) (C := Tryz.checked) false ⟨#[], #[.agg #[.slice none 0 0, .int .i64 0]], []⟩ 8 (by kernel_rfl) (by kernel_rfl) (by kernel_rfl) (by kernel_rfl)) ?_
  intro W base args ds gs before hval0 hW hcnd hsz0 _
  have hW' := hW
  obtain ⟨p, q, hA0, hV, rfl, hfz, hnd⟩ := hW
  have hts : Tryz.f6.params.toList = [54] := by rw [Tryz.params6]
  have hA : DataW.TrodAll enc Tryz.prog W 0 (fun _ => true) true [54] args.toList ds p := by rw [← hts]; exact hA0
  obtain ⟨rfl, rfl⟩ := trodVars_none hV
  refine (calls_law (P := Tryz.prog) (Checked.mixed Tryz.checked) okM (fun _ => XK_sim) (n := 8) (ts := [54]) (fun t ht => List.all_eq_true.1 plain t ht) law
    (fun j t v ht hv => hval0 j t v (by rw [← Array.getElem?_toList, hts]; exact ht) hv) hA).mono fun e W' ⟨he, bel⟩ => ?_
  subst he
  have hB := all_below (P := Tryz.prog) laidOut bel (ts := [54]) (by intro t ht; simp only [List.mem_cons, List.not_mem_nil, or_false] at ht; subst ht; exact ⟨by kernel_rfl, of_decide_eq_true (by kernel_rfl)⟩) hA
  rw [← hts] at hB
  obtain ⟨v0, vs0, d0, ds0, p0, q0, _, rfl, rfl, _, r0⟩ := trodAll_cons hA
  obtain ⟨rfl, rfl, rfl⟩ := trodAll_nil r0
  exact ⟨_, rfl, _, _, _, [], _, [], hW', trodAll_mk1 (shut_bool Tryz.underlying4 _), hB, rfl, bel.frame _, fun h => by cases h⟩
theorem andt {a b : Bool} (h1 : a = true) (h2 : b = true) : (a && b) = true := by rw [h1, h2]; rfl
set_option maxHeartbeats 20000000 in
theorem jf : joinedFacts Tryz.pinned.checked.prog 6 Tryz.f6 Rows.fnExactUsedSpec Rows.fnExactUsedRow = true := by
  unfold joinedFacts
  iterate 11 (with_reducible refine andt ?_ (by as_aux_lemma => kernel_rfl))
  as_aux_lemma => kernel_rfl
theorem over : Rows.fnExactUsedRow.holds Tryz.pinned (OpenSpec.ofChange Rows.fnExactUsedSpec) :=
  OpenClaim.holds_of_wide 6 Tryz.f6 rfl rfl rfl rfl rfl rfl rfl ⟨rfl, rfl, rfl, rfl, rfl⟩ rfl rfl rfl rfl rfl (by kernel_rfl) Tryz.func6 jf
    (of_decide_eq_true (by kernel_rfl)) (by unfold Func.isWrapper; first | (rw [if_pos (by decide +kernel)]; kernel_rfl) | (rw [if_neg (by decide +kernel)]; exact ⟨rfl, rfl⟩))
    (fun os started H enc _ => lifted os started H enc)
theorem proved : Rows.FnExactUsedSaid := over
#print axioms proved
end Go.Proofs.YtgdfgnppeekfjaaGreat.fnExactUsed
namespace Go.Proofs.YtgdfgnppeekfjaaGreat
/-- The row, under a short name, for the claim. -/
theorem fnExactUsed_holds : Rows.FnExactUsedSaid := fnExactUsed.proved
end Go.Proofs.YtgdfgnppeekfjaaGreat
