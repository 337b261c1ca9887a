/- The law FnExactWordOf returns true at every string. No conditions but the reach of a string. -/
import Derived.Test.YtlhhmlldcpafiaaPFnExactWordOfx1
namespace Go.Proofs.Ytlhhmlldcpafiaa.Pure
open Go.RowKit Go.Proofs.Ytlhhmlldcpafiaa.PFnExactWordOf Go.Proofs.YtlhhmlldcpafiaaW.PrintWords Go.Proofs.YtlhhmlldcpafiaaW.PrintLast

set_option linter.unusedSimpArgs false
theorem wordOf_spec (s : ByteArray) : ∃ r, spec_WordOf.f 14 s = some r ∧ impl_WordOf.f 14 s = some r := by
  unfold spec_WordOf.f impl_WordOf.f slices_Index_string_string.f impl_wordNames.f spec_l1Names.f
  by_cases h0 : s.toList = []
  · refine ⟨0, ?_, ?_⟩
    · simp [spec_WordOf.l0, rdOf, wrap64, h0]
    · simp [slices_Index_string_string.l0, rdOf, wrap64, h0, mx]
  · simp only [Option.bind_some]
    by_cases h1 : s.toList = [97, 100, 100]
    · exact ⟨1, by simp [spec_WordOf.l0, rdOf, wrap64, h1], by simp [slices_Index_string_string.l0, rdOf, wrap64, h1, mx]⟩
    by_cases h2 : s.toList = [115, 117, 98]
    · exact ⟨2, by simp [spec_WordOf.l0, rdOf, wrap64, h2], by simp [slices_Index_string_string.l0, rdOf, wrap64, h2, mx]⟩
    by_cases h3 : s.toList = [109, 117, 108]
    · exact ⟨3, by simp [spec_WordOf.l0, rdOf, wrap64, h3], by simp [slices_Index_string_string.l0, rdOf, wrap64, h3, mx]⟩
    by_cases h4 : s.toList = [97, 110, 100]
    · exact ⟨4, by simp [spec_WordOf.l0, rdOf, wrap64, h4], by simp [slices_Index_string_string.l0, rdOf, wrap64, h4, mx]⟩
    by_cases h5 : s.toList = [111, 114]
    · exact ⟨5, by simp [spec_WordOf.l0, rdOf, wrap64, h5], by simp [slices_Index_string_string.l0, rdOf, wrap64, h5, mx]⟩
    by_cases h6 : s.toList = [120, 111, 114]
    · exact ⟨6, by simp [spec_WordOf.l0, rdOf, wrap64, h6], by simp [slices_Index_string_string.l0, rdOf, wrap64, h6, mx]⟩
    by_cases h7 : s.toList = [108, 101, 115, 115]
    · exact ⟨7, by simp [spec_WordOf.l0, rdOf, wrap64, h7], by simp [slices_Index_string_string.l0, rdOf, wrap64, h7, mx]⟩
    by_cases h8 : s.toList = [115, 97, 109, 101]
    · exact ⟨8, by simp [spec_WordOf.l0, rdOf, wrap64, h8], by simp [slices_Index_string_string.l0, rdOf, wrap64, h8, mx]⟩
    by_cases h9 : s.toList = [108, 101, 102, 116]
    · exact ⟨9, by simp [spec_WordOf.l0, rdOf, wrap64, h9], by simp [slices_Index_string_string.l0, rdOf, wrap64, h9, mx]⟩
    by_cases h10 : s.toList = [114, 105, 103, 104, 116]
    · exact ⟨10, by simp [spec_WordOf.l0, rdOf, wrap64, h10], by simp [slices_Index_string_string.l0, rdOf, wrap64, h10, mx]⟩
    have g : ∀ l : List UInt8, s.toList ≠ l → l ≠ s.toList := fun l h e => h e.symm
    refine ⟨0, ?_, ?_⟩
    · simp [spec_WordOf.l0, rdOf, wrap64, g _ h1, g _ h2, g _ h3, g _ h4, g _ h5, g _ h6, g _ h7, g _ h8, g _ h9, g _ h10]
    · simp [slices_Index_string_string.l0, rdOf, wrap64, h0, h1, h2, h3, h4, h5, h6, h7, h8, h9, h10, mx]
theorem FnExactWordOf : laws_FnExactWordOf.Pure := by
  intro a0 _
  obtain ⟨r, h1, h2⟩ := wordOf_spec a0
  refine ⟨14, ?_⟩
  unfold laws_FnExactWordOf.f
  rw [h1, h2]
  by_cases h : (a0.size : Int) > 1048576
  · simp [h]
  · simp [h]

end Go.Proofs.Ytlhhmlldcpafiaa.Pure
