/- Searching rows for what answers to a test. No conditions. -/
import Derived.Test.YtnpbldjbfkpbcaaKb
namespace Go.Proofs.Ytnpbldjbfkpbcaa.Vm
open Go.RowKit (wrap64)
set_option linter.unusedSimpArgs false
set_option linter.unusedVariables false

/-- The first place whose thing answers; -1: none. -/
def findI {α : Type} (p : α → Bool) (xs : List α) : Int := match xs.findIdx? p with
  | some i => i
  | none => -1
theorem findI_some {α : Type} {p : α → Bool} {xs : List α} {i : Nat} (hi : i < xs.length) (h : ∀ j (hj : j < i), p (xs[j]'(by omega)) = false) (hp : p xs[i] = true) : findI p xs = i := by
  unfold findI
  have : xs.findIdx? p = some i := by
    rw [List.findIdx?_eq_some_iff_getElem]
    exact ⟨hi, hp, fun j hj => by rw [h j hj]; simp⟩
  rw [this]
theorem findI_none {α : Type} {p : α → Bool} {xs : List α} (h : ∀ j (hj : j < xs.length), p xs[j] = false) : findI p xs = -1 := by
  unfold findI
  have : xs.findIdx? p = none := by
    rw [List.findIdx?_eq_none_iff]
    intro x hx
    obtain ⟨j, hj, rfl⟩ := List.getElem_of_mem hx
    exact h j hj
  rw [this]
theorem findI_nonneg {α : Type} {p : α → Bool} {xs : List α} : 0 ≤ findI p xs ↔ xs.any p = true := by
  unfold findI
  cases h : xs.findIdx? p with
  | some i =>
    rw [List.findIdx?_eq_some_iff_getElem] at h
    obtain ⟨hi, hp, _⟩ := h
    simp only [Int.natCast_nonneg, true_iff, List.any_eq_true]
    exact ⟨_, List.getElem_mem hi, hp⟩
  | none =>
    rw [List.findIdx?_eq_none_iff] at h
    constructor
    · intro h2; exact absurd h2 (by decide)
    · intro h2
      rw [List.any_eq_true] at h2
      obtain ⟨x, hx, hp⟩ := h2
      rw [h x hx] at hp; cases hp
theorem snoc_false {n : Nat} {q : Nat → Bool} {i : Nat} (h : ∀ j, j < i → q j = false) (hi : q i = false) : ∀ j, j < i + 1 → q j = false := by
  intro j hj
  by_cases e : j = i
  · subst e; exact hi
  · exact h j (by omega)

theorem indexBlk {H : Hp} {v : CV} {xs : List BlkR} (hv : Blocks H v xs) (hb : xs.length ≤ BIG) {fid : Nat} {caps : List CV} (p : BlkR → Bool)
    (hp : ∀ i (hi : i < xs.length) cs, blkP BIG H cs xs[i] → ∀ k : IV × Hp → Prop, CM fid (.agg cs :: caps.map .c) H k = k (.c (.b (p xs[i])), H)) (k : IV × Hp → Prop) :
    CM 155 [.c v, .f fid caps] H k = k (.c (.i (findI p xs)), H) := by
  refine det (cw155 ?_) k
  unfold vf155c
  simp [hv.lenOf]
  refine wp_for CM_mono xs.length (fun i s => (∀ j (hj : j < i) (hx : j < xs.length), p xs[j] = false) ∧ s.h = H ∧ Env.get s.e 0 = .c v ∧ Env.get s.e 1 = .f fid caps ∧ Env.get s.e 7 = .c (.i xs.length) ∧ Env.get s.e 8 = .c (.i i)) (by simp) ?_ ?_
  · rintro i ⟨e, X⟩ hi ⟨ht, rfl, h0, h1, h7, h8⟩
    simp only at h0 h1 h7 h8 hv hp ⊢
    obtain ⟨id, g, off, cs, q1, hA, hl, hP⟩ := Row.get hv hi
    have hq : rdN X id g off 6 = some cs := by have := hA.n 0 6 (by omega); rw [Nat.add_zero, List.drop_zero, List.take_of_length_le (by omega)] at this; exact this
    have hwr := up1 hi hb
    unfold vf155b0
    cases hpx : p xs[i] with
    | false =>
      simp [h0, h1, h7, h8, q1, hq, hi, hwr, hp i hi _ hP, hpx]
      intro j hj hx
      by_cases e : j = i
      · subst e; exact hpx
      · exact ht j (by omega) hx
    | true =>
      simp [h0, h1, h7, h8, q1, hq, hi, hwr, hp i hi _ hP, hpx, findI_some hi (fun j hj => ht j hj (by omega)) hpx]
  · rintro ⟨e, X⟩ ⟨ht, rfl, h0, h1, h7, h8⟩
    simp only at h0 h1 h7 h8 ⊢
    unfold vf155b0
    simp [h0, h1, h7, h8, findI_none (fun j hj => ht j hj hj)]
theorem containsBlk {H : Hp} {v : CV} {xs : List BlkR} (hv : Blocks H v xs) (hb : xs.length ≤ BIG) {fid : Nat} {caps : List CV} (p : BlkR → Bool)
    (hp : ∀ i (hi : i < xs.length) cs, blkP BIG H cs xs[i] → ∀ k : IV × Hp → Prop, CM fid (.agg cs :: caps.map .c) H k = k (.c (.b (p xs[i])), H)) (k : IV × Hp → Prop) :
    CM 125 [.c v, .f fid caps] H k = k (.c (.b (xs.any p)), H) := by
  refine det (cw125 ?_) k
  unfold vf125c
  have e : decide (0 ≤ findI p xs) = xs.any p := by
    cases h : xs.any p with
    | true => exact decide_eq_true (findI_nonneg.2 h)
    | false => exact decide_eq_false fun hc => by rw [findI_nonneg.1 hc] at h; cases h
  simp [indexBlk hv hb p hp, e]

theorem indexPhi {H : Hp} {v : CV} {xs : List PhiR} (hv : Phis H v xs) (hb : xs.length ≤ BIG) {fid : Nat} {caps : List CV} (p : PhiR → Bool)
    (hp : ∀ i (hi : i < xs.length) cs, phiP BIG H cs xs[i] → ∀ k : IV × Hp → Prop, CM fid (.agg cs :: caps.map .c) H k = k (.c (.b (p xs[i])), H)) (k : IV × Hp → Prop) :
    CM 144 [.c v, .f fid caps] H k = k (.c (.i (findI p xs)), H) := by
  refine det (cw144 ?_) k
  unfold vf144c
  simp [hv.lenOf]
  refine wp_for CM_mono xs.length (fun i s => (∀ j (hj : j < i) (hx : j < xs.length), p xs[j] = false) ∧ s.h = H ∧ Env.get s.e 0 = .c v ∧ Env.get s.e 1 = .f fid caps ∧ Env.get s.e 7 = .c (.i xs.length) ∧ Env.get s.e 8 = .c (.i i)) (by simp) ?_ ?_
  · rintro i ⟨e, X⟩ hi ⟨ht, rfl, h0, h1, h7, h8⟩
    simp only at h0 h1 h7 h8 hv hp ⊢
    obtain ⟨id, g, off, cs, q1, hA, hl, hP⟩ := Row.get hv hi
    have hq : rdN X id g off 2 = some cs := by have := hA.n 0 2 (by omega); rw [Nat.add_zero, List.drop_zero, List.take_of_length_le (by omega)] at this; exact this
    have hwr := up1 hi hb
    unfold vf144b0
    cases hpx : p xs[i] with
    | false =>
      simp [h0, h1, h7, h8, q1, hq, hi, hwr, hp i hi _ hP, hpx]
      intro j hj hx
      by_cases e : j = i
      · subst e; exact hpx
      · exact ht j (by omega) hx
    | true =>
      simp [h0, h1, h7, h8, q1, hq, hi, hwr, hp i hi _ hP, hpx, findI_some hi (fun j hj => ht j hj (by omega)) hpx]
  · rintro ⟨e, X⟩ ⟨ht, rfl, h0, h1, h7, h8⟩
    simp only at h0 h1 h7 h8 ⊢
    unfold vf144b0
    simp [h0, h1, h7, h8, findI_none (fun j hj => ht j hj hj)]
theorem containsPhi {H : Hp} {v : CV} {xs : List PhiR} (hv : Phis H v xs) (hb : xs.length ≤ BIG) {fid : Nat} {caps : List CV} (p : PhiR → Bool)
    (hp : ∀ i (hi : i < xs.length) cs, phiP BIG H cs xs[i] → ∀ k : IV × Hp → Prop, CM fid (.agg cs :: caps.map .c) H k = k (.c (.b (p xs[i])), H)) (k : IV × Hp → Prop) :
    CM 108 [.c v, .f fid caps] H k = k (.c (.b (xs.any p)), H) := by
  refine det (cw108 ?_) k
  unfold vf108c
  have e : decide (0 ≤ findI p xs) = xs.any p := by
    cases h : xs.any p with
    | true => exact decide_eq_true (findI_nonneg.2 h)
    | false => exact decide_eq_false fun hc => by rw [findI_nonneg.1 hc] at h; cases h
  simp [indexPhi hv hb p hp, e]

theorem indexIns {H : Hp} {v : CV} {xs : List InsR} (hv : List5 H v xs) (hb : xs.length ≤ BIG) {fid : Nat} {caps : List CV} (p : InsR → Bool)
    (hp : ∀ i (hi : i < xs.length) cs, insP H cs xs[i] → ∀ k : IV × Hp → Prop, CM fid (.agg cs :: caps.map .c) H k = k (.c (.b (p xs[i])), H)) (k : IV × Hp → Prop) :
    CM 110 [.c v, .f fid caps] H k = k (.c (.i (findI p xs)), H) := by
  refine det (cw110 ?_) k
  unfold vf110c
  simp [hv.lenOf]
  refine wp_for CM_mono xs.length (fun i s => (∀ j (hj : j < i) (hx : j < xs.length), p xs[j] = false) ∧ s.h = H ∧ Env.get s.e 0 = .c v ∧ Env.get s.e 1 = .f fid caps ∧ Env.get s.e 7 = .c (.i xs.length) ∧ Env.get s.e 8 = .c (.i i)) (by simp) ?_ ?_
  · rintro i ⟨e, X⟩ hi ⟨ht, rfl, h0, h1, h7, h8⟩
    simp only at h0 h1 h7 h8 hv hp ⊢
    obtain ⟨id, g, off, cs, q1, hA, hl, hP⟩ := Row.get hv hi
    have hq : rdN X id g off 5 = some cs := by have := hA.n 0 5 (by omega); rw [Nat.add_zero, List.drop_zero, List.take_of_length_le (by omega)] at this; exact this
    have hwr := up1 hi hb
    unfold vf110b0
    cases hpx : p xs[i] with
    | false =>
      simp [h0, h1, h7, h8, q1, hq, hi, hwr, hp i hi _ hP, hpx]
      intro j hj hx
      by_cases e : j = i
      · subst e; exact hpx
      · exact ht j (by omega) hx
    | true =>
      simp [h0, h1, h7, h8, q1, hq, hi, hwr, hp i hi _ hP, hpx, findI_some hi (fun j hj => ht j hj (by omega)) hpx]
  · rintro ⟨e, X⟩ ⟨ht, rfl, h0, h1, h7, h8⟩
    simp only at h0 h1 h7 h8 ⊢
    unfold vf110b0
    simp [h0, h1, h7, h8, findI_none (fun j hj => ht j hj hj)]
theorem containsIns {H : Hp} {v : CV} {xs : List InsR} (hv : List5 H v xs) (hb : xs.length ≤ BIG) {fid : Nat} {caps : List CV} (p : InsR → Bool)
    (hp : ∀ i (hi : i < xs.length) cs, insP H cs xs[i] → ∀ k : IV × Hp → Prop, CM fid (.agg cs :: caps.map .c) H k = k (.c (.b (p xs[i])), H)) (k : IV × Hp → Prop) :
    CM 130 [.c v, .f fid caps] H k = k (.c (.b (xs.any p)), H) := by
  refine det (cw130 ?_) k
  unfold vf130c
  have e : decide (0 ≤ findI p xs) = xs.any p := by
    cases h : xs.any p with
    | true => exact decide_eq_true (findI_nonneg.2 h)
    | false => exact decide_eq_false fun hc => by rw [findI_nonneg.1 hc] at h; cases h
  simp [indexIns hv hb p hp, e]

theorem indexArm {H : Hp} {v : CV} {xs : List ArmR} (hv : Arms H v xs) (hb : xs.length ≤ BIG) {fid : Nat} {caps : List CV} (p : ArmR → Bool)
    (hp : ∀ i (hi : i < xs.length) cs, armP H cs xs[i] → ∀ k : IV × Hp → Prop, CM fid (.agg cs :: caps.map .c) H k = k (.c (.b (p xs[i])), H)) (k : IV × Hp → Prop) :
    CM 177 [.c v, .f fid caps] H k = k (.c (.i (findI p xs)), H) := by
  refine det (cw177 ?_) k
  unfold vf177c
  simp [hv.lenOf]
  refine wp_for CM_mono xs.length (fun i s => (∀ j (hj : j < i) (hx : j < xs.length), p xs[j] = false) ∧ s.h = H ∧ Env.get s.e 0 = .c v ∧ Env.get s.e 1 = .f fid caps ∧ Env.get s.e 7 = .c (.i xs.length) ∧ Env.get s.e 8 = .c (.i i)) (by simp) ?_ ?_
  · rintro i ⟨e, X⟩ hi ⟨ht, rfl, h0, h1, h7, h8⟩
    simp only at h0 h1 h7 h8 hv hp ⊢
    obtain ⟨id, g, off, cs, q1, hA, hl, hP⟩ := Row.get hv hi
    have hq : rdN X id g off 2 = some cs := by have := hA.n 0 2 (by omega); rw [Nat.add_zero, List.drop_zero, List.take_of_length_le (by omega)] at this; exact this
    have hwr := up1 hi hb
    unfold vf177b0
    cases hpx : p xs[i] with
    | false =>
      simp [h0, h1, h7, h8, q1, hq, hi, hwr, hp i hi _ hP, hpx]
      intro j hj hx
      by_cases e : j = i
      · subst e; exact hpx
      · exact ht j (by omega) hx
    | true =>
      simp [h0, h1, h7, h8, q1, hq, hi, hwr, hp i hi _ hP, hpx, findI_some hi (fun j hj => ht j hj (by omega)) hpx]
  · rintro ⟨e, X⟩ ⟨ht, rfl, h0, h1, h7, h8⟩
    simp only at h0 h1 h7 h8 ⊢
    unfold vf177b0
    simp [h0, h1, h7, h8, findI_none (fun j hj => ht j hj hj)]
theorem containsArm {H : Hp} {v : CV} {xs : List ArmR} (hv : Arms H v xs) (hb : xs.length ≤ BIG) {fid : Nat} {caps : List CV} (p : ArmR → Bool)
    (hp : ∀ i (hi : i < xs.length) cs, armP H cs xs[i] → ∀ k : IV × Hp → Prop, CM fid (.agg cs :: caps.map .c) H k = k (.c (.b (p xs[i])), H)) (k : IV × Hp → Prop) :
    CM 157 [.c v, .f fid caps] H k = k (.c (.b (xs.any p)), H) := by
  refine det (cw157 ?_) k
  unfold vf157c
  have e : decide (0 ≤ findI p xs) = xs.any p := by
    cases h : xs.any p with
    | true => exact decide_eq_true (findI_nonneg.2 h)
    | false => exact decide_eq_false fun hc => by rw [findI_nonneg.1 hc] at h; cases h
  simp [indexArm hv hb p hp, e]
end Go.Proofs.Ytnpbldjbfkpbcaa.Vm
