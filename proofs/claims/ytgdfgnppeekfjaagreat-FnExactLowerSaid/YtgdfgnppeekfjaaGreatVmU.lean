/- From the ideal machine to the row of a law: if the ideal machine answers true whatever the arguments, so does the call, and what was there is there still. Conditions: the code at hand is the ideal machine's (`OkCode`). -/
import Derived.Test.YtgdfgnppeekfjaaGreatVmT
import Derived.Carry
import Derived.OpenShut
namespace Go.Proofs.YtgdfgnppeekfjaaGreat.Vm
open Go.RowKit (wrap64 Below)
open Go.ChangeShapes Go.WideShapes Go.RowKit
set_option linter.unusedSimpArgs false
set_option linter.unusedVariables false
def AllOk (P : Program) : List (Nat × VF) → Prop
  | [] => True
  | p :: r => (∃ fn, P.funcs[p.1]? = some fn ∧ chkF P fn p.2 = true) ∧ AllOk P r
theorem okCode_of {P : Program} : ∀ {tab : List (Nat × VF)}, AllOk P tab → OkCode P fun n => tab.lookup n := by
  intro tab
  induction tab with
  | nil => intro _ f vf h; cases h
  | cons p r ih =>
    intro h f vf hf
    obtain ⟨k, v⟩ := p
    simp only [List.lookup] at hf
    by_cases e : f = k
    · subst e
      simp only [beq_self_eq_true] at hf
      injection hf with hf; subst hf
      exact h.1
    · have : (f == k) = false := by simpa using e
      rw [this] at hf
      exact ih h.2 f vf hf
section
variable {Q : Type} {enc : TypeId × Value → Q} {P : Program}
theorem calls_law {M : Code} {X0 : OrD} (hm : P.follows .mixedOrders = true) (hM : OkCode P M) (hX : ∀ w0, OrdSim P w0 X0) {f : FuncId} {n : Nat} {ts : List TypeId} (hp : ∀ t ∈ ts, plainT P n t = true)
    (law : ∀ (H : Hp) (ivs : List IV), (∀ o ∈ H, o.rw = false) → ArgsTy P H n ts ivs → callD M X0 f ivs H fun r => r.1 = .c (.b true))
    {W : World} {base : Nat} {args : Array Value} {ds : List (DataW Q)} {ps : List MemPlace}
    (hv : ∀ (j : Nat) (t : TypeId) (v : Value), ts[j]? = some t → args[j]? = some v → Value.okWide P W .any base t v)
    (hA : DataW.TrodAll enc P W 0 (fun _ => true) true ts args.toList ds ps) :
    Calls P f args W fun e W' => e = .returned (.bool true) ∧ Below W.heap.size W W' := by
  obtain ⟨ρ, Y, ivs, hI, _, hR, hw, hT⟩ := open_args (Q := Q) (enc := enc) ts args.toList ds ps (fun _ => (⟨0, 0, none⟩, 0)) [] hp (fun j t v ht hj => .inr ⟨base, hv j t v ht (by simpa using hj)⟩) hA (Ini.nil _ _)
  have hc := law _ ivs hI.2 hT
  obtain ⟨_, hcalls⟩ := callD_sim (w0 := W) hm hM (hX W) f ivs _ _ hc
  have := hcalls ρ W args.toList hI.1 hR hw
  rw [Array.toArray_toList] at this
  refine Calls.mono this ?_
  rintro e W' ⟨⟨iv, H'⟩, hiv, ρ', v, rfl, h1, h2, h3, h4⟩
  simp only at hiv
  subst hiv
  have hv : v = .bool true := h1
  subst hv
  exact ⟨rfl, h3.bel⟩
theorem all_below (hl : laidOutB P = true) {W W' : World} (hb : Below W.heap.size W W') : ∀ {ts : List TypeId} {vs : List Value} {ds : List (DataW Q)} {ps : List MemPlace}, (∀ t ∈ ts, P.readableRec t = true ∧ t < P.types.size) →
    DataW.TrodAll enc P W 0 (fun _ => true) true ts vs ds ps → DataW.TrodAll enc P W' 0 (fun b => decide (b < W.heap.size)) true ts vs ds ps := by
  intro ts
  induction ts with
  | nil =>
    intro vs ds ps _ h
    cases vs <;> cases ds <;> first | exact h | (simp [DataW.TrodAll] at h)
  | cons t ts ih =>
    intro vs ds ps hp h
    cases vs with
    | nil => simp [DataW.TrodAll] at h
    | cons v vs =>
      cases ds with
      | nil => simp [DataW.TrodAll] at h
      | cons d ds =>
        simp only [DataW.TrodAll] at h ⊢
        obtain ⟨p, q, h1, h2, h3⟩ := h
        obtain ⟨hr, hlt⟩ := hp t (by simp)
        refine ⟨p, q, Below.trod hl hr hlt h1 hb ?_, ih (fun t ht => hp t (by simp [ht])) h2, h3⟩
        obtain ⟨m, hm⟩ := h1
        exact DataW.trod_lt m _ _ _ hm
end
end Go.Proofs.YtgdfgnppeekfjaaGreat.Vm
