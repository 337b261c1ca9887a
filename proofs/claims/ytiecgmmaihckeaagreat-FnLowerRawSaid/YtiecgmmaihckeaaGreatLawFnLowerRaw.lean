/- FnLowerRaw returns true at every row of bytes. -/
import Derived.Test.YtiecgmmaihckeaaGreatRows
import Derived.Test.YtiecgmmaihckeaaGreatW8
import Derived.WalkKit
import Derived.ProofKit
import Derived.OpenShut
import Derived.ShutString
import Derived.ChangeOld
import Derived.Below
import Derived.SizedLaws
namespace Go.Proofs.YtiecgmmaihckeaaGreat.fnLowerRaw
open Go.ChangeShapes Go.WideShapes Go.ChangeAt Go.RowKit
open Go.ChangeMaps (open_string shut_string)
open Vm
set_option linter.unusedVariables false
set_option linter.unusedSimpArgs false
theorem own : ownKnob Tryz.prog.godebug = none := by kernel_rfl
theorem laidOut : laidOutB Tryz.prog = true := by kernel_rfl
theorem plain : ([22] : List TypeId).all (fun t => plainT Tryz.prog 8 t) = true := by kernel_rfl
theorem tB : Tryz.prog.underlying 22 = some (.slice 5) ∧ Tryz.prog.underlying 5 = some (.int .u8) ∧ leafTs Tryz.prog 8 5 = some [5] ∧ Tryz.prog.cellsOf 5 = 1 := ⟨by kernel_rfl, by kernel_rfl, by kernel_rfl, by kernel_rfl⟩

theorem law (H : Hp) (ivs : List IV) (h0 : ∀ o ∈ H, o.rw = false) (hT : ArgsTy Tryz.prog H 8 [22] ivs) : CM 7 ivs H fun r => r.1 = .c (.b true) := by
  obtain ⟨iv, r, rfl, hA, hr⟩ := hT.cons_inv
  obtain ⟨v, xs, rfl, hv, hb⟩ := arg_bytes tB.1 tB.2.1 tB.2.2.1 tB.2.2.2 (by kernel_rfl) (by kernel_rfl) hA
  obtain rfl := ArgsTy.nil_inv hr
  exact lowerRaw_law hv
set_option maxRecDepth 100000 in
theorem lifted (os : Os) (started : os.Started) (H : Type) (enc : TypeId × Value → H) :
    ReturnsInHanded {} Tryz.checked os 7 .any (Rows.fnLowerRawSpec.pre6 enc Tryz.prog Tryz.f7 Rows.fnLowerRawRow.domain false) (Rows.fnLowerRawSpec.post enc Tryz.prog Tryz.f7 false true false false) := by
  refine returnsInHanded_of_change_sized (C := Tryz.checked) own started (by kernel_rfl) Tryz.func7
    (ChangeSpec.witness6 (enc := enc) (C := Tryz.checked) false ⟨#[], #[.slice none 0 0], []⟩ 8 (by kernel_rfl) (by kernel_rfl) (by kernel_rfl) (by kernel_rfl)) ?_
  intro W base args ds gs before hval0 hW hcnd hsz0 _
  have hW' := hW
  obtain ⟨p, q, hA0, hV, rfl, hfz, hnd⟩ := hW
  have hts : Tryz.f7.params.toList = [22] := by rw [Tryz.params7]
  have hA : DataW.TrodAll enc Tryz.prog W 0 (fun _ => true) true [22] args.toList ds p := by rw [← hts]; exact hA0
  obtain ⟨rfl, rfl⟩ := trodVars_none hV
  refine (calls_law (P := Tryz.prog) (Checked.mixed Tryz.checked) okM (fun _ => XK_sim) (n := 8) (ts := [22]) (fun t ht => List.all_eq_true.1 plain t ht) law
    (fun j t v ht hv => hval0 j t v (by rw [← Array.getElem?_toList, hts]; exact ht) hv) hA).mono fun e W' ⟨he, bel⟩ => ?_
  subst he
  have hB := all_below (P := Tryz.prog) laidOut bel (ts := [22]) (by intro t ht; simp only [List.mem_cons, List.not_mem_nil, or_false] at ht; subst ht; exact ⟨by kernel_rfl, of_decide_eq_true (by kernel_rfl)⟩) hA
  rw [← hts] at hB
  obtain ⟨v0, vs0, d0, ds0, p0, q0, _, rfl, rfl, _, r0⟩ := trodAll_cons hA
  obtain ⟨rfl, rfl, rfl⟩ := trodAll_nil r0
  exact ⟨_, rfl, _, _, _, [], _, [], hW', trodAll_mk1 (shut_bool Tryz.underlying4 _), hB, rfl, bel.frame _, fun h => by cases h⟩
theorem andt {a b : Bool} (h1 : a = true) (h2 : b = true) : (a && b) = true := by rw [h1, h2]; rfl
set_option maxHeartbeats 20000000 in
theorem jf : joinedFacts Tryz.pinned.checked.prog 7 Tryz.f7 Rows.fnLowerRawSpec Rows.fnLowerRawRow = true := by
  unfold joinedFacts
  iterate 11 (with_reducible refine andt ?_ (by as_aux_lemma => kernel_rfl))
  as_aux_lemma => kernel_rfl
theorem over : Rows.fnLowerRawRow.holds Tryz.pinned (OpenSpec.ofChange Rows.fnLowerRawSpec) :=
  OpenClaim.holds_of_wide 7 Tryz.f7 rfl rfl rfl rfl rfl rfl rfl ⟨rfl, rfl, rfl, rfl, rfl⟩ rfl rfl rfl rfl rfl (by kernel_rfl) Tryz.func7 jf
    (of_decide_eq_true (by kernel_rfl)) (by unfold Func.isWrapper; first | (rw [if_pos (by decide +kernel)]; kernel_rfl) | (rw [if_neg (by decide +kernel)]; exact ⟨rfl, rfl⟩))
    (fun os started H enc _ => lifted os started H enc)
theorem proved : Rows.FnLowerRawSaid := over
#print axioms proved
end Go.Proofs.YtiecgmmaihckeaaGreat.fnLowerRaw
namespace Go.Proofs.YtiecgmmaihckeaaGreat
/-- The row, under a short name, for the claim. -/
theorem fnLowerRaw_holds : Rows.FnLowerRawSaid := fnLowerRaw.proved
end Go.Proofs.YtiecgmmaihckeaaGreat
