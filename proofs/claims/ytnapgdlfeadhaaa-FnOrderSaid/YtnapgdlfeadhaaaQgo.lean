import Derived.Test.YtnapgdlfeadhaaaQgn
import Derived.Test.YtnapgdlfeadhaaaQfe
import Derived.Test.YtnapgdlfeadhaaaQze
section
/- A drawn program; who stands on every way to whom, as the law asks. No conditions. -/
namespace Go.Proofs.Ytnapgdlfeadhaaa.Vm
open Go.RowKit (wrap64)
set_option linter.unusedSimpArgs false
set_option linter.unusedVariables false

theorem within_call {H : Hp} {v : CV} {xs : List Int} {x : Int} (hv : IsI H v xs) (hb : xs.length ≤ BIG) (k : IV × Hp → Prop) :
    CM 17 [.c v, .c (.i x)] H k = k (.c (.b (hasI xs x)), H) := by
  refine det (cw17 ?_) k
  unfold vf17c
  simp
  refine wp_for CM_mono xs.length (fun i s => (∀ j (hj : j < i) (hx : j < xs.length), ¬ x = xs[j]) ∧ s.h = H ∧ Env.get s.e 0 = .c v ∧ Env.get s.e 1 = .c (.i x) ∧ Env.get s.e 5 = .c (.i i)) (by simp) ?_ ?_
  · rintro i ⟨e, X⟩ hi ⟨ht, rfl, h0, h1, h5⟩
    simp only at h0 h1 h5 hv ⊢
    obtain ⟨id, g, off, q1, q2⟩ := hv.at_ hi
    unfold vf17b0
    by_cases hpx : x = xs[i]
    · have : hasI xs x = true := hasI_iff.2 (by rw [hpx]; exact List.getElem_mem hi)
      simp [h0, h1, h5, q1, q2, hi, hv.lenOf, hpx.symm, this]
    · have hpx' : ¬ xs[i] = x := fun h => hpx h.symm
      simp [h0, h1, h5, q1, q2, hi, hv.lenOf, up1 hi hb, hpx']
      intro j hj hx
      by_cases e : j = i
      · subst e; exact hpx
      · exact ht j (by omega) hx
  · rintro ⟨e, X⟩ ⟨ht, rfl, h0, h1, h5⟩
    simp only at h0 h1 h5 hv ⊢
    unfold vf17b0
    have : hasI xs x = false := by
      cases hc : hasI xs x with
      | false => rfl
      | true =>
        obtain ⟨j, hj, he⟩ := List.getElem_of_mem (hasI_iff.1 hc)
        exact (ht j hj hj he.symm).elim
    simp [h0, h1, h5, hv.lenOf, this]
/-! ### The plain law -/
theorem mem_preds {bs : List BlkR} {b : Int} {p : Int} (h : p ∈ predsF bs b) : ∃ k : Nat, p = k ∧ k < bs.length ∧ b ∈ succsAt bs k := by
  unfold predsF predsTo at h
  rw [List.mem_map] at h
  obtain ⟨k, hk, rfl⟩ := h
  rw [List.mem_filter, List.mem_range] at hk
  exact ⟨k, rfl, hk.1, hasI_iff.1 hk.2⟩
theorem preds_mem {bs : List BlkR} {b : Int} {k : Nat} (hk : k < bs.length) (h : b ∈ succsAt bs k) : (k : Int) ∈ predsF bs b := by
  unfold predsF predsTo
  rw [List.mem_map]
  exact ⟨k, by rw [List.mem_filter, List.mem_range]; exact ⟨hk, hasI_iff.2 h⟩, rfl⟩
/-! ### The law -/
end Go.Proofs.Ytnapgdlfeadhaaa.Vm
end
