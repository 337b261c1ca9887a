/- Regions whose orders are all taken: what holds whatever is done. No conditions. -/
import Derived.Test.YtgdfgnppeekfjaaGreatVmW
namespace Go.Proofs.YtgdfgnppeekfjaaGreat.Vm
set_option linter.unusedSimpArgs false
set_option linter.unusedVariables false

@[congr] theorem RunAllD_one {K : OrD} {ops : List VO} {Q : St → Prop} {n : Nat} {l : List Bool} {st st' : St} (h : st = st') : RunAllD K ops Q n l st = RunAllD K ops Q n l st' := by rw [h]

/-- Whatever was done, what it stands behind was done. -/
def Clo (ops : List VO) (listed : List Bool) : Prop := ∀ i o, ops[i]? = some o → listed.getD i false = true → ∀ j ∈ o.dp, listed.getD j false = true

theorem count_set {l : List Bool} {i : Nat} (h : l.getD i true = false) : (l.set i true).count false + 1 = l.count false := by
  induction l generalizing i with
  | nil => simp at h
  | cons a r ih =>
    cases i with
    | zero => simp at h; subst h; simp
    | succ i =>
      simp at h
      have := ih (i := i) (by simpa using h)
      cases a <;> simp at this ⊢ <;> omega
theorem ready_of {ops : List VO} {listed : List Bool} {i : Nat} {o : VO} (ho : ops[i]? = some o) (h : listed.getD i true = false) (hd : ∀ j ∈ o.dp, listed.getD j false = true) : i ∈ readyV ops listed := by
  unfold readyV
  rw [List.mem_filter, List.mem_range]
  refine ⟨(List.getElem?_eq_some_iff.1 ho).1, ?_⟩
  rw [h, ho]
  simp
  intro j hj
  have := hd j hj
  simpa using this
theorem getD_tf {l : List Bool} {i : Nat} (hi : i < l.length) (d d' : Bool) : l.getD i d = l.getD i d' := by
  simp [List.getD_eq_getElem?_getD, hi]
theorem all_inv {K : OrD} (hm : MonoK K) {ops : List VO} {Q : St → Prop} (hd : (ops.zipIdx.all fun p => p.1.dp.all fun j => decide (j < p.2)) = true) (Inv : List Bool → St → Prop) {st : St}
    (h0 : Inv (List.replicate ops.length false) st)
    (step : ∀ listed st i o, listed.length = ops.length → Clo ops listed → Inv listed st → ops[i]? = some o → listed.getD i true = false → (∀ j ∈ o.dp, listed.getD j false = true) → runOpD K o st fun s => Inv (listed.set i true) s)
    (done : ∀ st, Inv (List.replicate ops.length true) st → Q st) : RunAllD K ops Q ops.length (List.replicate ops.length false) st := by
  have hdp : ∀ (i : Nat) (o : VO), ops[i]? = some o → ∀ j ∈ o.dp, j < i := by
    intro i o ho j hj
    have := List.all_eq_true.1 hd (o, i) (by rw [List.mem_zipIdx_iff_getElem?]; exact ho)
    have := List.all_eq_true.1 this j hj
    simpa using this
  have key : ∀ n listed st, listed.length = ops.length → listed.count false = n → Clo ops listed → Inv listed st → RunAllD K ops Q n listed st := by
    intro n
    induction n with
    | zero =>
      intro listed st hl hc hcl hI
      have e : listed = List.replicate ops.length true := by
        rw [List.eq_replicate_iff]
        refine ⟨hl, fun b hb => ?_⟩
        rw [List.count_eq_zero] at hc
        cases b with
        | true => rfl
        | false => exact absurd hb hc
      refine ⟨?_, done st (e ▸ hI)⟩
      rw [List.eq_nil_iff_forall_not_mem]
      intro i hi
      obtain ⟨o, h1, h2, _⟩ := mem_ready hi
      rw [e] at h2
      have := (List.getElem?_eq_some_iff.1 h1).1
      simp [List.getD_eq_getElem?_getD, this] at h2
    | succ n ih =>
      intro listed st hl hc hcl hI
      refine ⟨fun hr => ?_, fun i hi => ?_⟩
      · exfalso
        have hex : ∃ i, i < ops.length ∧ listed.getD i true = false := by
          have : false ∈ listed := by rw [← List.count_pos_iff]; omega
          obtain ⟨i, hi, he⟩ := List.getElem_of_mem this
          exact ⟨i, by omega, by simp [List.getD_eq_getElem?_getD, hi, he]⟩
        obtain ⟨i, hi, hf⟩ := hex
        have least : ∀ n i, i ≤ n → i < ops.length → listed.getD i true = false → False := by
          intro n
          induction n with
          | zero =>
            intro i hi hlt hf
            have ho : ops[i]? = some ops[i] := List.getElem?_eq_getElem hlt
            have := ready_of ho hf (fun j hj => by have := hdp i _ ho j hj; omega)
            rw [hr] at this
            cases this
          | succ n ihn =>
            intro i hi hlt hf
            have ho : ops[i]? = some ops[i] := List.getElem?_eq_getElem hlt
            have := ready_of ho hf (fun j hj => by
              have hji := hdp i _ ho j hj
              cases h : listed.getD j false with
              | true => rfl
              | false => exact (ihn j (by omega) (by omega) (by rw [getD_tf (by omega) true false]; exact h)).elim)
            rw [hr] at this
            cases this
        exact least i i (Nat.le_refl _) hi hf
      · obtain ⟨o, h1, h2, h3⟩ := mem_ready hi
        have hilt : i < listed.length := by rw [hl]; exact (List.getElem?_eq_some_iff.1 h1).1
        refine ⟨o, h1, runOpD_le hm.le (fun s hs => ih (listed.set i true) s (by simpa using hl) ?_ ?_ hs) (step listed st i o hl hcl hI h1 h2 h3)⟩
        · have := count_set h2; omega
        · intro i' o' ho' hl' j hj
          rw [getD_setF hilt] at hl' ⊢
          split
          · rfl
          · split at hl'
            · rename_i e; subst e; rw [h1] at ho'; injection ho' with ho'; subst ho'; exact h3 j hj
            · exact hcl i' o' ho' hl' j hj
  exact key ops.length _ st (by simp) (by simp) (fun i o ho h => by
    simp [List.getD_eq_getElem?_getD] at h
    by_cases hi : i < ops.length <;> simp [hi] at h) h0
end Go.Proofs.YtgdfgnppeekfjaaGreat.Vm
