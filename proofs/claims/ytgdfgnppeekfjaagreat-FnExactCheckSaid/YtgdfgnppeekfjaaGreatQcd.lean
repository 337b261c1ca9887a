import Derived.Test.YtgdfgnppeekfjaaGreatQcc
import Derived.Test.YtgdfgnppeekfjaaGreatP2
section
/- Flags looked for, rows of numbers compared and sorted; the arms of a block, both sides. No conditions. -/
namespace Go.Proofs.YtgdfgnppeekfjaaGreat.Vm
open Go.RowKit (wrap64)
set_option linter.unusedSimpArgs false
set_option linter.unusedVariables false

theorem indexBool {H : Hp} {v : CV} {xs : List Bool} {x : Bool} (hv : IsL H v xs) (hb : xs.length ≤ BIG) (k : IV × Hp → Prop) :
    CM 152 [.c v, .c (.b x)] H k = k (.c (.i (findI (fun y => decide (x = y)) xs)), H) := by
  refine det (cw152 ?_) k
  unfold vf152c
  simp [hv.lenOf]
  refine wp_for CM_mono xs.length (fun i s => (∀ j (hj : j < i) (hx : j < xs.length), decide (x = xs[j]) = false) ∧ s.h = H ∧ Env.get s.e 0 = .c v ∧ Env.get s.e 1 = .c (.b x) ∧ Env.get s.e 7 = .c (.i xs.length) ∧ Env.get s.e 8 = .c (.i i)) (by simp) ?_ ?_
  · rintro i ⟨e, X⟩ hi ⟨ht, rfl, h0, h1, h7, h8⟩
    simp only at h0 h1 h7 h8 hv ⊢
    obtain ⟨id, g, off, q1, q2⟩ := hv.at_ hi
    unfold vf152b0
    cases hpx : decide (x = xs[i]) with
    | false =>
      have hne : ¬ x = xs[i] := of_decide_eq_false hpx
      have hfin : ∀ j, j < i + 1 → ∀ (hx : j < xs.length), ¬ x = xs[j] := by
        intro j hj hx
        by_cases e : j = i
        · subst e; exact hne
        · exact of_decide_eq_false (ht j (by omega) hx)
      cases hy : xs[i] <;> cases x <;> simp [hy] at hne <;> simp [h0, h1, h7, h8, q1, q2, hi, up1 hi hb, hy] <;> (intro j hj hx; simpa using hfin j hj hx)
    | true =>
      have he : x = xs[i] := of_decide_eq_true hpx
      have hfs := findI_some hi (p := fun y => decide (x = y)) (fun j hj => ht j hj (by omega)) hpx
      rw [hfs]
      cases hy : xs[i] <;> cases x <;> simp [hy] at he <;> simp [h0, h1, h7, h8, q1, q2, hi, up1 hi hb, hy]
  · rintro ⟨e, X⟩ ⟨ht, rfl, h0, h1, h7, h8⟩
    simp only at h0 h1 h7 h8 ⊢
    unfold vf152b0
    simp [h0, h1, h7, h8, findI_none (p := fun y => decide (x = y)) (fun j hj => ht j hj hj)]
theorem containsBool {H : Hp} {v : CV} {xs : List Bool} {x : Bool} (hv : IsL H v xs) (hb : xs.length ≤ BIG) (k : IV × Hp → Prop) :
    CM 86 [.c v, .c (.b x)] H k = k (.c (.b (xs.any fun y => decide (x = y))), H) := by
  refine det (cw86 ?_) k
  unfold vf86c
  have e : decide (0 ≤ findI (fun y => decide (x = y)) xs) = xs.any fun y => decide (x = y) := by
    cases h : xs.any (fun y => decide (x = y)) with
    | true => exact decide_eq_true (findI_nonneg.2 h)
    | false => exact decide_eq_false fun hc => by rw [findI_nonneg.1 hc] at h; cases h
  simp [indexBool hv hb, e]
theorem equalInt {H : Hp} {v w : CV} {xs ys : List Int} (hv : IsI H v xs) (hw : IsI H w ys) (hb : xs.length ≤ BIG) (k : IV × Hp → Prop) : CM 153 [.c v, .c w] H k = k (.c (.b (decide (xs = ys))), H) := by
  refine det (cw153 ?_) k
  unfold vf153c
  simp [hv.lenOf, hw.lenOf]
  by_cases hl : xs.length = ys.length
  · simp [hl, hv.lenOf]
    refine wp_for CM_mono xs.length (fun i s => xs.take i = ys.take i ∧ s.h = H ∧ Env.get s.e 0 = .c v ∧ Env.get s.e 1 = .c w ∧ Env.get s.e 12 = .c (.i xs.length) ∧ Env.get s.e 13 = .c (.i i)) (by simp [hl]) ?_ ?_
    · rintro i ⟨e, X⟩ hi ⟨ht, rfl, h0, h1, h12, h13⟩
      simp only at h0 h1 h12 h13 hv hw ⊢
      obtain ⟨id, g, off, q1, q2⟩ := hv.at_ hi
      obtain ⟨id', g', off', p1, p2⟩ := hw.at_ (show i < ys.length by omega)
      unfold vf153b0
      by_cases he : xs[i] = ys[i]
      · simp [h0, h1, h12, h13, q1, q2, p1, p2, hi, up1 hi hb, he]
        exact take_snoc_eq hi (by omega) ht he
      · have hne : xs ≠ ys := fun e => he (by subst e; rfl)
        simp [h0, h1, h12, h13, q1, q2, p1, p2, hi, he, hne]
    · rintro ⟨e, X⟩ ⟨ht, rfl, h0, h1, h12, h13⟩
      simp only at h0 h1 h12 h13 ⊢
      rw [List.take_length] at ht
      rw [hl, List.take_length] at ht
      unfold vf153b0
      simp [h0, h1, h12, h13, ht]
  · have : xs ≠ ys := fun e => hl (by rw [e])
    have hl' : ¬ (xs.length : Int) = ys.length := by omega
    simp [hl, this]
theorem sort_call {H : Hp} {id g : Nat} {xs : List Int} (ho : rdOb H id g = some ⟨xs.map .i, g, true, 1⟩) (hb : xs.length ≤ LIM) (k : IV × Hp → Prop) :
    CM 132 [.c (.sl id g 0 xs.length)] H k = k (.tup [], H.set id ⟨(sortI xs).map .i, g, true, 1⟩) := by
  have hM : M 132 = none := by rfl
  refine det ?_ k
  refine callD_of XK_mono ?_
  unfold bodyD
  rw [hM]
  refine ⟨rfl, .inr ⟨id, g, 0, _, xs, rfl, ho, rfl, rfl, by simp, by simp [List.take_of_length_le], hb, ?_⟩⟩
  simp [putAt, List.drop_of_length_le]
end Go.Proofs.YtgdfgnppeekfjaaGreat.Vm
end
