/- The law FnExactWord returns true at every three ints. No conditions but that the arguments are ints. -/
import Derived.Test.YtlhhmlldcpafiaaPFnExactWordx1
namespace Go.Proofs.Ytlhhmlldcpafiaa.Pure
open Go.RowKit Go.Proofs.Ytlhhmlldcpafiaa.PFnExactWord Go.Proofs.YtlhhmlldcpafiaaW.PrintWords Go.Proofs.YtlhhmlldcpafiaaW.PrintLast

theorem and63 (n : Int) : Go.bits .and .i64 n 63 = n % 64 := by
  have h63 : (BitVec.ofInt 64 63).toNat = 2 ^ 6 - 1 := by decide
  have key : (BitVec.ofInt 64 n &&& BitVec.ofInt 64 63).toNat = (n % ((2 ^ 64 : Nat) : Int)).toNat % 2 ^ 6 := by
    rw [BitVec.toNat_and, BitVec.toNat_ofInt, h63, Nat.and_two_pow_sub_one_eq_mod]
  show IntKind.i64.wrap ((BitVec.ofInt 64 n &&& BitVec.ofInt 64 63).toNat : Nat) = n % 64
  rw [key, IntKind.wrap_i64]
  omega
theorem word_some (a0 a1 a2 : Int) : ∃ r, spec_Word.f a0 a1 a2 = some r := by
  have h : 0 ≤ Go.bits .and .i64 a2 63 := by rw [and63]; omega
  unfold spec_Word.f spec_l1Bit.f
  repeat' split
  all_goals first | exact ⟨_, rfl⟩ | (exfalso; contradiction) | skip
  all_goals (simp only [Option.bind_some]; repeat' split) <;> exact ⟨_, rfl⟩
theorem FnExactWord : laws_FnExactWord.Pure := by
  intro a0 a1 a2 _ _ _
  have h : impl_Word.f a0 a1 a2 = spec_Word.f a0 a1 a2 := rfl
  obtain ⟨r, hr⟩ := word_some a0 a1 a2
  unfold laws_FnExactWord.f
  rw [h, hr]
  simp

end Go.Proofs.Ytlhhmlldcpafiaa.Pure
