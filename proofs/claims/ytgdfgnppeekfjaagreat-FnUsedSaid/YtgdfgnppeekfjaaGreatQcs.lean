import Derived.Test.YtgdfgnppeekfjaaGreatQcr
section
/- One block's round of what is used: the program's side. No conditions. -/
namespace Go.Proofs.YtgdfgnppeekfjaaGreat.Vm
open Go.RowKit (wrap64)
set_option linter.unusedSimpArgs false
set_option linter.unusedVariables false
theorem uses_vals {f : FnR} (hsh : shapeB f = true) {b : BlkR} (hb : b ∈ f.blocks) {x : InsR} (hx : x ∈ b.list) : Vals f.values.toNat (usesF x) := by
  have h := shape_ins hsh hb hx
  intro v hv
  unfold usesF at hv
  by_cases hw : wordOk x.op = true
  · rw [if_pos (.inl hw)] at hv
    obtain ⟨_, h2, h3⟩ := insB_word h hw
    simp at hv
    rcases hv with rfl | rfl
    · exact val_nat h2
    · exact val_nat h3
  · have hw' : wordOk x.op = false := by simpa using hw
    unfold insB at h
    rw [hw'] at h
    by_cases h22 : x.op = 22
    · rw [if_pos (.inr h22)] at hv
      rw [h22] at h
      simp [Bool.and_eq_true] at h hv
      rcases hv with rfl | rfl
      · exact val_nat (by simp [h])
      · exact val_nat (by simp [h])
    · rw [if_neg (by simp [hw', h22])] at hv
      by_cases h3 : x.op = 21 ∨ x.op = 23 ∨ x.op = 25
      · rw [if_pos h3] at hv
        simp at hv
        subst hv
        rcases h3 with e | e | e <;> rw [e] at h <;> simp [Bool.and_eq_true] at h <;> exact val_nat (by simp [h])
      · rw [if_neg h3] at hv; simp at hv
theorem tuses_vals {f : FnR} (hsh : shapeB f = true) {b : BlkR} (hb : b ∈ f.blocks) : Vals f.values.toNat (tusesF b.term) := by
  have h := shape_term hsh hb
  intro v hv
  unfold tusesF at hv
  by_cases h2 : b.term.kind = 2 ∨ b.term.kind = 3
  · rw [if_pos h2] at hv
    simp at hv
    subst hv
    unfold termB at h
    rcases h2 with e | e <;> rw [e] at h <;> simp [Bool.and_eq_true] at h <;> exact val_nat (by simp [h])
  · rw [if_neg h2] at hv; simp at hv
end Go.Proofs.YtgdfgnppeekfjaaGreat.Vm
end
