import Derived.Test.YtgdfgnppeekfjaaGreatP3
import Derived.Test.YtgdfgnppeekfjaaGreatP1
section
/- Drawn programs: handed out. Where a value is made: the law. No conditions. -/
namespace Go.Proofs.YtgdfgnppeekfjaaGreat.Vm
open Go.RowKit (wrap64)
set_option linter.unusedSimpArgs false
set_option linter.unusedVariables false
theorem defGo_spec (v : Int) : ∀ (bs : List BlkR) (j : Nat), ((defGo v bs j).2 = -2 ∧ (defGo v bs j).1 = -1) ∨ ∃ i, ∃ hi : i < bs.length, (defGo v bs j).1 = ((j + i : Nat) : Int) ∧
    (((defGo v bs j).2 = -1 ∧ bs[i].phis.any (fun p => decide (p.d = v)) = true) ∨ ∃ n, ∃ hn : n < bs[i].list.length, (defGo v bs j).2 = (n : Int) ∧ madeAt v bs[i].list[n] = true) := by
  intro bs
  induction bs with
  | nil => intro j; exact .inl ⟨rfl, rfl⟩
  | cons b r ih =>
    intro j
    cases hd : defBlk b v with
    | none =>
      have e : defGo v (b :: r) j = defGo v r (j + 1) := by simp [defGo, hd]
      rw [e]
      rcases ih (j + 1) with h | ⟨i, hi, h1, h2⟩
      · exact .inl h
      · exact .inr ⟨i + 1, by simpa using hi, by rw [h1]; congr 1; omega, h2⟩
    | some p =>
      have e : defGo v (b :: r) j = ((j : Int), p) := by simp [defGo, hd]
      rw [e]
      refine .inr ⟨0, by simp, by simp, ?_⟩
      unfold defBlk at hd
      split at hd
      · rename_i hp
        injection hd with hd
        exact .inl ⟨hd.symm, hp⟩
      · split at hd
        · rename_i h0
          injection hd with hd
          right
          have : ∃ n, ∃ hn : n < b.list.length, findI (madeAt v) b.list = (n : Int) ∧ madeAt v b.list[n] = true := by
            have hany := findI_nonneg.1 h0
            unfold findI at h0 ⊢
            cases hf : b.list.findIdx? (madeAt v) with
            | none => rw [hf] at h0; simp at h0
            | some n =>
              rw [List.findIdx?_eq_some_iff_getElem] at hf
              obtain ⟨h1, h2, _⟩ := hf
              exact ⟨n, h1, rfl, h2⟩
          obtain ⟨n, hn, h1, h2⟩ := this
          exact ⟨n, hn, by rw [← hd]; exact h1, h2⟩
        · cases hd
end Go.Proofs.YtgdfgnppeekfjaaGreat.Vm
end
