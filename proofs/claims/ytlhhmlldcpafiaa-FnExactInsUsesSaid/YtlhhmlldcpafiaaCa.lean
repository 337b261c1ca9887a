/- What the small helpers over rows of numbers do. No conditions. -/
import Derived.Test.YtlhhmlldcpafiaaVmTab
import Derived.Test.YtlhhmlldcpafiaaVmW
namespace Go.Proofs.Ytlhhmlldcpafiaa.Vm
open Go.RowKit (wrap64)
set_option linter.unusedSimpArgs false
set_option linter.unusedVariables false

theorem eqIntS_loop {H : Hp} {v w : CV} {xs ys : List Int} (hv : IsI H v xs) (hw : IsI H w ys) (hl : xs.length = ys.length) (hb : xs.length ≤ maxLen) {a b : IV} :
    ∃ r, loopF (exG (call M noX) vf24v vf24b0)
      ⟨[(0, .c v), (1, .c w), (4, .c (.b false)), (5, .c (.i 0)), (10, .c (.b false)), (14, a), (25, b)], H⟩ = some r ∧ r.2.h = H ∧
      ((xs = ys ∧ r.1 = .exit 0) ∨ (xs ≠ ys ∧ r.1 = .ret ∧ Env.get r.2.e 4 = .c (.b false))) := by
  refine loop_rule (Inv := fun k s => ∃ (i : Nat) (a b : IV), i + k = xs.length ∧ xs.take i = ys.take i ∧
    s = ⟨[(0, .c v), (1, .c w), (4, .c (.b false)), (5, .c (.i i)), (10, .c (.b false)), (14, a), (25, b)], H⟩) ?_ (k := xs.length) ⟨0, a, b, by omega, by simp, rfl⟩
  rintro k _ ⟨i, a, b, hi, ht, rfl⟩
  simp only [maxLen] at hb
  by_cases hix : i < xs.length
  · have hiy : i < ys.length := by omega
    obtain ⟨id, g, off, o, q1, q2, q3⟩ := hv.get hix
    obtain ⟨id', g', off', o', p1, p2, p3⟩ := hw.get hiy
    have hw : wrap64 ((i : Int) + 1) = (i : Int) + 1 := wrap64_id (by omega)
    by_cases he : xs[i] = ys[i]
    · refine ⟨_, by simp [vf24b0, vf24v, hv.lenOf, hix, hiy, q1, q2, q3, p1, p2, p3, he, hw]; with_reducible rfl, .inl ⟨rfl, k - 1, by omega, i + 1, _, _, by omega, ?_, rfl⟩⟩
      rw [List.take_succ_eq_append_getElem hix, List.take_succ_eq_append_getElem hiy, ht, he]
    · refine ⟨_, by simp [vf24b0, vf24v, hv.lenOf, hix, hiy, q1, q2, q3, p1, p2, p3, he, hw, bneD, bneN]; with_reducible rfl, .inr ⟨by simp, rfl, .inr ⟨?_, rfl, rfl⟩⟩⟩
      rintro rfl
      exact he rfl
  · refine ⟨_, by simp [vf24b0, vf24v, hv.lenOf, hix]; with_reducible rfl, .inr ⟨by simp, rfl, .inl ⟨?_, rfl⟩⟩⟩
    rw [List.take_of_length_le (by omega), List.take_of_length_le (by omega)] at ht
    exact ht

theorem eqIntS_call {H : Hp} {v w : CV} {xs ys : List Int} (hv : IsI H v xs) (hw : IsI H w ys) (hb : xs.length ≤ maxLen) : call M noX 24 [.c v, .c w] H = some (.c (.b (decide (xs = ys))), H) := by
  refine call_ofG (vf := vf24) rfl dr24 ?_
  by_cases hl : xs.length = ys.length
  · obtain ⟨⟨x, s⟩, hr, hh, hc⟩ := eqIntS_loop hv hw hl hb (a := .c .non) (b := .c .non)
    rcases hc with ⟨he, rfl⟩ | ⟨he, rfl, h4⟩
    · simp [vf24, vf24v, hv.lenOf, hw.lenOf, hl] at hr hh ⊢
      simp [hr, hh, he]
    · simp [vf24, vf24v, hv.lenOf, hw.lenOf, hl] at hr hh h4 ⊢
      simp [hr, hh, h4, he]
  · have he : ¬ xs = ys := fun h => hl (by rw [h])
    simp [vf24, vf24v, hv.lenOf, hw.lenOf, hl, he, bneD, bneN]

end Go.Proofs.Ytlhhmlldcpafiaa.Vm
