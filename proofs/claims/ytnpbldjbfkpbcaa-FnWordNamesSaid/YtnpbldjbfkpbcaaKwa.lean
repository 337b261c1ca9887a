/- FnWords. No conditions. -/
import Derived.Test.YtnpbldjbfkpbcaaKdb
namespace Go.Proofs.Ytnpbldjbfkpbcaa.Vm
open Go.RowKit (wrap64)
set_option linter.unusedSimpArgs false
set_option linter.unusedVariables false

theorem implSub (a b : Int) : wordF 2 a b = wrap64 (a - b) := rfl
theorem add_less {a b : Int} (ha : InR a) : wordF 2 (wordF 1 a b) b = a := by
  show wrap64 (wrap64 (a + b) - b) = a
  unfold InR at ha; unfold wrap64; omega
theorem or_less (a b : Int) : wordF 2 (wordF 5 a b) (wordF 4 a b) = wordF 6 a b := by
  have key : ∀ x y : BitVec 64, (x ||| y) = (x &&& y) + (x ^^^ y) := by
    intro x y
    have h : (x &&& y) &&& (x ^^^ y) = 0#64 := by
      ext i hi
      simp only [BitVec.getElem_and, BitVec.getElem_xor, BitVec.getElem_zero]
      cases x[i] <;> cases y[i] <;> rfl
    rw [BitVec.add_eq_or_of_and_eq_zero _ _ h]
    ext i hi
    simp only [BitVec.getElem_and, BitVec.getElem_xor, BitVec.getElem_or]
    cases x[i] <;> cases y[i] <;> rfl
  have k2 := congrArg BitVec.toNat (key (BitVec.ofInt 64 a) (BitVec.ofInt 64 b))
  rw [BitVec.toNat_add] at k2
  show wrap64 (IntKind.i64.wrap ((BitVec.ofInt 64 a ||| BitVec.ofInt 64 b).toNat : Nat) - IntKind.i64.wrap ((BitVec.ofInt 64 a &&& BitVec.ofInt 64 b).toNat : Nat)) = IntKind.i64.wrap ((BitVec.ofInt 64 a ^^^ BitVec.ofInt 64 b).toNat : Nat)
  rw [IntKind.wrap_i64, IntKind.wrap_i64, IntKind.wrap_i64]
  have l1 := (BitVec.ofInt 64 a ||| BitVec.ofInt 64 b).isLt
  have l2 := (BitVec.ofInt 64 a &&& BitVec.ofInt 64 b).isLt
  have l3 := (BitVec.ofInt 64 a ^^^ BitVec.ofInt 64 b).isLt
  generalize (BitVec.ofInt 64 a ||| BitVec.ofInt 64 b).toNat = p at *
  generalize (BitVec.ofInt 64 a &&& BitVec.ofInt 64 b).toNat = q at *
  generalize (BitVec.ofInt 64 a ^^^ BitVec.ofInt 64 b).toNat = r at *
  unfold wrap64
  omega
theorem mul_turn (a b : Int) : wordF 3 a b = wordF 3 b a := by
  show wrap64 (a * b) = wrap64 (b * a)
  rw [Int.mul_comm]
theorem one_of (a b : Int) : wrap64 (wrap64 (wordF 7 a b + wordF 7 b a) + wordF 8 a b) = 1 := by
  show wrap64 (wrap64 ((if a < b then (1 : Int) else 0) + (if b < a then (1 : Int) else 0)) + (if a = b then (1 : Int) else 0)) = 1
  unfold wrap64
  repeat' split
  all_goals omega
theorem word_none {op : Int} (h : wordOk op = false) (a b : Int) : wordF op a b = 0 := by
  have h : ¬ (1 ≤ op ∧ op ≤ 10) := by unfold wordOk inB at h; simpa using h
  unfold wordF
  rw [if_neg (by omega), if_neg (by omega), if_neg (by omega), if_neg (by omega), if_neg (by omega), if_neg (by omega), if_neg (by omega), if_neg (by omega), if_neg (by omega), if_neg (by omega)]
set_option maxRecDepth 100000 in
theorem words_law {H : Hp} {v : CV} {xs : List Int} (hv : IsB H v xs) : CM 6 [.c v] H Tru := by
  refine cw6 ?_
  unfold vf6c
  by_cases hbig : 1048576 < xs.length
  · simp [big_call hv.lenOf, hbig]
  · simp [big_call hv.lenOf, hbig]
    refine (drawWord hv (by simp only [BIG]; omega)).mono ?_
    rintro _ ⟨op, a, b, Z, rfl, ha, hb⟩
    have e1 := add_less (b := b) ha
    have e2 := or_less a b
    have e3 := one_of a b
    have e4 := mul_turn a b
    cases ho : wordOk op with
    | true => simp [implWord, specWord, implWordOk, specWordOk, ho, e1, e2, e3, e4]
    | false => simp [implWord, specWord, implWordOk, specWordOk, ho, word_none ho, e1, e2, e3, e4]
end Go.Proofs.Ytnpbldjbfkpbcaa.Vm
