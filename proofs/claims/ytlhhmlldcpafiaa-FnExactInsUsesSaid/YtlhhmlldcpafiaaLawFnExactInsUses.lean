/- The law FnExactInsUses holds of the program: it returns true whatever its argument. No conditions. -/
import Derived.Test.YtlhhmlldcpafiaaRows
import Derived.Test.YtlhhmlldcpafiaaVmV
import Derived.Test.YtlhhmlldcpafiaaLInsUses
import Derived.WalkKit
import Derived.ProofKit
import Derived.OpenShut
import Derived.ShutString
import Derived.ChangeOld
import Derived.Below
import Derived.SizedLaws
namespace Go.Proofs.Ytlhhmlldcpafiaa.fnExactInsUses
open Go.ChangeShapes Go.WideShapes Go.ChangeAt Go.RowKit
open Go.ChangeMaps (open_string shut_string)
open Vm
set_option linter.unusedVariables false
theorem own : ownKnob Try.prog.godebug = none := by kernel_rfl
theorem laidOut : laidOutB Try.prog = true := by kernel_rfl
theorem plain : ([37] : List TypeId).all (fun t => plainT Try.prog 8 t) = true := by kernel_rfl
theorem law (H : Hp) (ivs : List IV) (h0 : ∀ o ∈ H, o.rw = false) (hT : ArgsTy Try.prog H 8 [37] ivs) : ∃ H', call M noX 13 ivs H = some (.c (.b true), H') := by
  obtain ⟨iv, r, rfl, h1, h2⟩ := hT.cons_inv
  obtain rfl := h2.nil_inv
  obtain ⟨cvs, rfl, hl, hc⟩ := h1.agg (ls := [3, 3, 3, 3, 3]) (by kernel_rfl) (by kernel_rfl) (by kernel_rfl)
  match cvs, hl, hc with
  | [a, b, c, d, e], _, hc =>
    obtain ⟨a, rfl, _⟩ := (hc 0 3 a rfl rfl).int (by kernel_rfl)
    obtain ⟨b, rfl, _⟩ := (hc 1 3 b rfl rfl).int (by kernel_rfl)
    obtain ⟨c, rfl, _⟩ := (hc 2 3 c rfl rfl).int (by kernel_rfl)
    obtain ⟨d, rfl, _⟩ := (hc 3 3 d rfl rfl).int (by kernel_rfl)
    obtain ⟨e, rfl, _⟩ := (hc 4 3 e rfl rfl).int (by kernel_rfl)
    exact law_InsUses H a b c d e
set_option maxRecDepth 100000 in
theorem lifted (os : Os) (started : os.Started) (H : Type) (enc : TypeId × Value → H) :
    ReturnsInHanded {} Try.checked os 13 .any (Rows.fnExactInsUsesSpec.pre6 enc Try.prog Try.f13 Rows.fnExactInsUsesRow.domain false) (Rows.fnExactInsUsesSpec.post enc Try.prog Try.f13 false true false false) := by
  refine returnsInHanded_of_change_sized (C := Try.checked) own started (by kernel_rfl) Try.func13
    (ChangeSpec.witness6 (enc := enc) (C := Try.checked) false ⟨#[], #[.agg #[.int .i64 0, .int .i64 0, .int .i64 0, .int .i64 0, .int .i64 0]], []⟩ 8 (by kernel_rfl) (by kernel_rfl) (by kernel_rfl) (by kernel_rfl)) ?_
  intro W base args ds gs before hval0 hW hcnd hsz0 _
  have hW' := hW
  obtain ⟨p, q, hA0, hV, rfl, hfz, hnd⟩ := hW
  have hts : Try.f13.params.toList = [37] := by rw [Try.params13]
  have hA : DataW.TrodAll enc Try.prog W 0 (fun _ => true) true [37] args.toList ds p := by rw [← hts]; exact hA0
  obtain ⟨rfl, rfl⟩ := trodVars_none hV
  refine (calls_law (P := Try.prog) (Checked.mixed Try.checked) okM (fun _ => noX_sim) (n := 8) (ts := [37]) (fun t ht => List.all_eq_true.1 plain t ht) law
    (fun j t v ht hv => hval0 j t v (by rw [← Array.getElem?_toList, hts]; exact ht) hv) hA).mono fun e W' ⟨he, bel⟩ => ?_
  subst he
  have hB := all_below (P := Try.prog) laidOut bel (ts := [37]) (by intro t ht; simp only [List.mem_cons, List.not_mem_nil, or_false] at ht; subst ht; exact ⟨by kernel_rfl, of_decide_eq_true (by kernel_rfl)⟩) hA
  rw [← hts] at hB
  obtain ⟨v0, vs0, d0, ds0, p0, q0, _, rfl, rfl, _, r0⟩ := trodAll_cons hA
  obtain ⟨rfl, rfl, rfl⟩ := trodAll_nil r0
  exact ⟨_, rfl, _, _, _, [], _, [], hW', trodAll_mk1 (shut_bool Try.underlying4 _), hB, rfl, bel.frame _, fun h => by cases h⟩
theorem over : Rows.fnExactInsUsesRow.holds Try.pinned (OpenSpec.ofChange Rows.fnExactInsUsesSpec) :=
  OpenClaim.holds_of_wide 13 Try.f13 rfl rfl rfl rfl rfl rfl rfl ⟨rfl, rfl, rfl, rfl, rfl⟩ rfl rfl rfl rfl rfl (by kernel_rfl) Try.func13 (by kernel_rfl)
    (of_decide_eq_true (by kernel_rfl)) (by unfold Func.isWrapper; first | (rw [if_pos (by decide +kernel)]; kernel_rfl) | (rw [if_neg (by decide +kernel)]; exact ⟨rfl, rfl⟩))
    (fun os started H enc _ => lifted os started H enc)
theorem proved : Rows.FnExactInsUsesSaid := over
#print axioms proved
end Go.Proofs.Ytlhhmlldcpafiaa.fnExactInsUses
namespace Go.Proofs.Ytlhhmlldcpafiaa
/-- The row, under a short name, for the claim. -/
theorem fnExactInsUses_holds : Rows.FnExactInsUsesSaid := fnExactInsUses.proved
end Go.Proofs.Ytlhhmlldcpafiaa
