/- FnShifts. No conditions. -/
import Derived.Test.YtnpbldjbfkpbcaaKwa
namespace Go.Proofs.Ytnpbldjbfkpbcaa.Vm
open Go.RowKit (wrap64)
set_option linter.unusedSimpArgs false
set_option linter.unusedVariables false

theorem low_facts {n : Nat} (hn : n ≤ 63) {a : Int} (ha : InR a) : wrap64 (a / 2 ^ n * 2 ^ n) = a / 2 ^ n * 2 ^ n ∧ 0 ≤ a - a / 2 ^ n * 2 ^ n ∧ a - a / 2 ^ n * 2 ^ n < 2 ^ n ∧ (a / 2 ^ n < 0 ↔ a < 0) ∧ (2 : Int) ^ n ≤ 9223372036854775808 := by
  have hP : (0 : Int) < 2 ^ n := Int.pow_pos (by decide)
  have hM : (0 : Int) < 2 ^ (63 - n) := Int.pow_pos (by decide)
  have hPM : (2 : Int) ^ n * 2 ^ (63 - n) = 9223372036854775808 := by
    rw [← Int.pow_add, show n + (63 - n) = 63 by omega]; decide
  generalize (2 : Int) ^ n = P at *
  generalize (2 : Int) ^ (63 - n) = M at *
  have e : P * (a / P) + a % P = a := Int.mul_ediv_add_emod a P
  have r0 : 0 ≤ a % P := Int.emod_nonneg _ (by omega)
  have r1 : a % P < P := Int.emod_lt_of_pos _ hP
  rw [Int.mul_comm] at e
  have hlo : -M ≤ a / P := Int.le_ediv_of_mul_le hP (by unfold InR at ha; rw [Int.neg_mul, Int.mul_comm, hPM]; omega)
  have hlo2 : -M * P ≤ a / P * P := Int.mul_le_mul_of_nonneg_right hlo (by omega)
  rw [Int.neg_mul, Int.mul_comm M P, hPM] at hlo2
  have hle : P ≤ 9223372036854775808 := by
    have : P * 1 ≤ P * M := Int.mul_le_mul_of_nonneg_left (by omega) (by omega)
    omega
  have hs : a / P < 0 ↔ a < 0 := by
    constructor
    · intro h
      have h1 : a / P ≤ -1 := by omega
      have h2 : a / P * P ≤ -1 * P := Int.mul_le_mul_of_nonneg_right h1 (by omega)
      omega
    · intro h
      refine Int.not_le.1 fun h2 => ?_
      have h3 : 0 ≤ a / P * P := Int.mul_nonneg h2 (by omega)
      omega
  generalize a / P * P = Q at *
  refine ⟨wrap_of (by unfold InR at ha ⊢; omega), by omega, by omega, hs, hle⟩
theorem wrap_dbl (x : Int) : wrap64 (wrap64 x + wrap64 x) = wrap64 (x * 2) := by unfold wrap64; omega
theorem dbl_step (a : Int) (i : Nat) : wordF 1 (wrap64 (a * 2 ^ i)) (wrap64 (a * 2 ^ i)) = wrap64 (a * 2 ^ (i + 1)) := by
  show wrap64 (wrap64 (a * 2 ^ i) + wrap64 (a * 2 ^ i)) = _
  rw [wrap_dbl, Int.mul_assoc, ← Int.pow_succ]
theorem left_at {n : Nat} {b : Int} (hb : b % 64 = n) (a : Int) : wordF 9 a b = wrap64 (a * 2 ^ n) := by
  show wrap64 (a * 2 ^ (b % 64).toNat) = _
  rw [hb, Int.toNat_natCast]
theorem right_at {n : Nat} {b : Int} (hb : b % 64 = n) (a : Int) : wordF 10 a b = a / 2 ^ n := by
  show a / 2 ^ (b % 64).toNat = _
  rw [hb, Int.toNat_natCast]
def lowOk (a y low : Int) (n : Nat) : Prop := 0 ≤ low ∧ (n = 63 ∨ low < wrap64 (2 ^ n)) ∧ (y < 0 ↔ a < 0)
theorem low_ok {n : Nat} (hn : n ≤ 63) {a b : Int} (ha : InR a) (hb : b % 64 = n) : lowOk a (wordF 10 a b) (wordF 2 a (wordF 9 (wordF 10 a b) b)) n := by
  obtain ⟨f1, f2, f3, f4, f5⟩ := low_facts hn ha
  rw [right_at hb, left_at hb, f1]
  show lowOk a (a / 2 ^ n) (wrap64 (a - a / 2 ^ n * 2 ^ n)) n
  unfold lowOk
  generalize a / 2 ^ n * 2 ^ n = Q at *
  rw [wrap_of (x := a - Q) (by unfold InR at ha ⊢; omega)]
  refine ⟨f2, ?_, f4⟩
  by_cases h : n = 63
  · exact .inl h
  · have hP2 : (2 : Int) ^ n ≤ 4611686018427387904 := by
      have h2 : (2 : Nat) ^ n ≤ 2 ^ 62 := Nat.pow_le_pow_right (by decide) (by omega)
      have h3 : ((2 ^ n : Nat) : Int) = 2 ^ n := by rw [Int.natCast_pow]; rfl
      rw [← h3]
      have h4 : (2 : Nat) ^ 62 = 4611686018427387904 := by decide
      omega
    have hP : (0 : Int) < 2 ^ n := Int.pow_pos (by decide)
    rw [wrap_of (x := 2 ^ n) (by unfold InR; omega)]
    exact .inr f3
set_option maxRecDepth 100000 in
theorem shifts_law {H : Hp} {v : CV} {xs : List Int} (hv : IsB H v xs) : CM 5 [.c v] H Tru := by
  refine cw5 ?_
  unfold vf5c
  by_cases hbig : 1048576 < xs.length
  · simp [big_call hv.lenOf, hbig]
  · simp [big_call hv.lenOf, hbig]
    refine (drawWord hv (by simp only [BIG]; omega)).mono ?_
    rintro _ ⟨op, a, b, Z, rfl, ha, hb⟩
    obtain ⟨n, hn, hbn⟩ : ∃ n : Nat, n ≤ 63 ∧ b % 64 = n := ⟨(b % 64).toNat, by omega, by omega⟩
    have hand : bits .and .i64 b 63 = n := by rw [and63, hbn]
    obtain ⟨l1, l2, l3⟩ := low_ok hn ha hbn
    have hl := left_at hbn a
    simp [hand]
    obtain ⟨I, hI⟩ : ∃ I : Nat → St → Prop, ∀ i s, I i s ↔ (s.h = Z ∧ Env.get s.e 4 = .c (.i a) ∧ Env.get s.e 5 = .c (.i b) ∧ Env.get s.e 6 = .c (.i n) ∧ Env.get s.e 7 = .c (.i (wrap64 (a * 2 ^ i))) ∧ Env.get s.e 8 = .c (.i i)) := ⟨_, fun _ _ => Iff.rfl⟩
    refine wp_for CM_mono n I ((hI _ _).2 ⟨rfl, by simp [wrap_of ha]⟩) ?_ ?_
    · rintro i ⟨e, X⟩ hi hs
      obtain ⟨hX, h4, h5, h6, h7, h8⟩ := (hI _ _).1 hs
      simp only at hX h4 h5 h6 h7 h8 ⊢
      have hd := dbl_step a i
      unfold vf5b0
      simp [h4, h5, h6, h7, h8, hi, implWord, hd, up1 hi (show n ≤ BIG by simp only [BIG]; omega)]
      exact (hI _ _).2 ⟨hX, by simp [h4, h5, h6]⟩
    · rintro ⟨e, X⟩ hs
      obtain ⟨hX, h4, h5, h6, h7, h8⟩ := (hI _ _).1 hs
      simp only at hX h4 h5 h6 h7 h8 ⊢
      unfold vf5b0
      have hs : decide (wordF 10 a b < 0) = decide (a < 0) := by by_cases h : a < 0 <;> simp [h, l3]
      have hn1 : ((n : Int) = 63) = (n = 63) := by simp only [eq_iff_iff]; omega
      have hn2 : 0 ≤ (n : Int) ∧ (n : Int) ≤ 64 := by omega
      by_cases h63 : n = 63
      · simp [h4, h5, h6, h7, h8, implWord, specWord, hl, l1, hs, h63]
      · have hlt := l2.resolve_left h63
        simp [h4, h5, h6, h7, h8, implWord, specWord, hl, l1, hs, hn1, h63, hn2, hlt]
end Go.Proofs.Ytnpbldjbfkpbcaa.Vm
